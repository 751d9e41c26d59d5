/- Layer 21: Match, the program's. -/
import Derived.Test.YtddigbhijfpmkaaDoorKeI
import Derived.Test.YtddigbhijfpmkaaDoorKeJ
namespace Go.Proofs.YtddigbhijfpmkaaDoor
set_option linter.unusedVariables false
set_option linter.unusedSimpArgs false
set_option maxRecDepth 100000
open Go.RowKit Go.Shelf Go.Lib
set_option maxRecDepth 100000
set_option maxHeartbeats 8000000

theorem com_le : ∀ a b : List Ky, comL a b ≤ a.length ∧ comL a b ≤ b.length
  | [], [] => ⟨Nat.le_refl _, Nat.le_refl _⟩
  | [], _ :: _ => ⟨Nat.le_refl _, Nat.zero_le _⟩
  | _ :: _, [] => ⟨Nat.zero_le _, Nat.le_refl _⟩
  | a :: s, b :: t => by
    have := com_le s t
    rw [comL]
    split
    · simp only [List.length_cons]; omega
    · exact ⟨Nat.zero_le _, Nat.zero_le _⟩
theorem com_self : ∀ a : List Ky, comL a a = a.length
  | [] => rfl
  | a :: s => by rw [comL, if_pos rfl, com_self s]; rfl
theorem com_whole : ∀ a b : List Ky, comL a b = b.length → a.length ≤ b.length → a = b
  | [], [], _, _ => rfl
  | [], _ :: _, h, _ => by simp [comL] at h
  | _ :: _, [], _, h => by simp at h
  | a :: s, b :: t, h, hl => by
    rw [comL] at h
    split at h
    · rename_i he
      rw [he, com_whole s t (by simpa using h) (by simpa using hl)]
    · simp at h
theorem chordG_len : ∀ (ps : List By) (acc : List Ky) (at_ : Nat), acc.length ≤ 8 → (chordG acc at_ ps).1.length ≤ 8
  | [], _, _, h => h
  | p :: ps, acc, at_, h => by
    rw [chordG_cons]
    split
    · exact Nat.zero_le _
    · split
      · exact Nat.zero_le _
      · exact chordG_len ps _ _ (by rw [List.length_append]; simp only [List.length_cons, List.length_nil]; omega)
theorem chord_len (l : By) : (chordL l).1.length ≤ 8 := by
  unfold chordL
  split
  · exact Nat.zero_le _
  · exact chordG_len _ _ _ (by decide)
/-- One chord more. -/
theorem which_step (ks : List Ky) (k : Nat) (l : By) (ls : List By) : whichL ks k (l :: ls) = if (chordL l).1 = ks then (k : Int) else whichL ks (k + 1) ls := rfl
theorem more_step (ks : List Ky) (l : By) (ls : List By) : moreB ks (l :: ls) = (decide (comL (chordL l).1 ks = ks.length ∧ ks.length < (chordL l).1.length) || moreB ks ls) := rfl
theorem bad_step (l : By) (ls : List By) : firstBad (l :: ls) = if (chordL l).2.2 ≠ 0 then (chordL l).2.2 else firstBad ls := rfl
def MatchV (Z : Int × Bool × Nat) : Value := .tuple #[.int .i64 Z.1, .bool Z.2.1, .int .i64 (Z.2.2 : Int)]
theorem Match_any (B : Nat) (A1 A2 : Option Addr) (c1 c2 : Nat) (L : List By) (ks : List Ky) (w : World) (hT : Tabs w) (h1 : At B w A1 (strs L)) (h2 : At B w A2 (kys ks)) (hB : B ≤ w.heap.size) (l1 : L.length ≤ 4611686018427387904) (l2 : ks.length ≤ 4611686018427387904) :
    Calls Tryd.prog 17 #[.slice A1 L.length c1, .slice A2 ks.length c2] w fun e w' => e = .returned (MatchV (matchL L ks)) ∧ Below w.heap.size w w' := by
  by_cases h256 : 256 < L.length
  · have h1 : (256 : Int) < (L.length : Int) := by omega
    rw [show matchL L ks = (0, false, 4) by unfold matchL; rw [if_pos h256]]
    go_enter Tryd.func17, Tryd.ntmps17
    go_wp2
    refine bodyPost_ret (v := .tuple #[.int .i64 0, .bool false, .int .i64 4]) (by simp [results, Tryd.results17, go_sem, *]) rfl ⟨rfl, Below.refl _ _⟩
  · have h1' : ¬ ((256 : Int) < (L.length : Int)) := by omega
    have H1 := hid h1
    have H2 := hid h2
    clear h1 h2
    obtain ⟨FB, hFB⟩ : ∃ x, firstBad L = x := ⟨_, rfl⟩
    obtain ⟨WF, hWF⟩ : ∃ x, whichL ks 0 L = x := ⟨_, rfl⟩
    obtain ⟨MF, hMF⟩ : ∃ x, moreB ks L = x := ⟨_, rfl⟩
    obtain ⟨AF, hAF⟩ : ∃ x, ks.all mayB = x := ⟨_, rfl⟩
    have hm : matchL L ks = if FB ≠ 0 then (0, false, FB) else if 8 < ks.length then (0, false, 4) else if AF then (WF, MF, 0) else (0, false, 210) := by
      unfold matchL
      rw [if_neg h256, hFB, hWF, hMF, hAF]
    rw [hm]
    obtain ⟨Z0, hZ0⟩ : ∃ x, (if FB ≠ 0 then ((0 : Int), false, FB) else if 8 < ks.length then (0, false, 4) else if AF then (WF, MF, 0) else (0, false, 210)) = x := ⟨_, rfl⟩
    rw [hZ0]
    have HZ0 := hid hZ0
    clear hZ0
    have i1 : L.length ≤ 256 := by omega
    have HF0 := hid hFB
    have HW0 := hid (show (if (-1 : Int) < 0 then whichL ks 0 (L.drop 0) else -1) = WF from hWF)
    have HM0 := hid (show (false || moreB ks (L.drop 0)) = MF by rw [Bool.false_or]; exact hMF)
    have HA0 := hid hAF
    clear hFB hWF hMF hAF hm h256
    go_enter Tryd.func17, Tryd.ntmps17
    go_wp2
    go_loopw [4, 5, 20] (fun v4 v5 v20 wr => ∃ (wh : Int) (mo : Bool) (k : Nat), v4 = .int .i64 wh ∧ v5 = .bool mo ∧ v20 = .int .i64 k ∧ k ≤ L.length ∧ Hid (firstBad (L.drop k) = FB) ∧ Hid ((if wh < 0 then whichL ks k (L.drop k) else wh) = WF) ∧ Hid ((mo || moreB ks (L.drop k)) = MF) ∧ (-1 ≤ wh ∧ wh ≤ 256) ∧ Below w.heap.size w wr) (fun _ _ v20 _ => L.length - (RowKit.intOf v20).toNat)
    case atStart => exact ⟨-1, false, 0, rfl, rfl, rfl, by omega, hid (by rw [List.drop_zero]; exact HF0.out), HW0, HM0, by omega, Below.refl _ _⟩
    case round =>
      obtain ⟨wh, mo, k, rfl, rfl, rfl, hk, HF, HW, HM, hwh, hbr⟩ := hrel
      have hsr := hbr.size
      by_cases hl : k < L.length
      · have i2 : (k : Int) < (L.length : Int) := by omega
        obtain ⟨g1, o1, rfl, hg1, x0⟩ := (H1.out.below (hbr.mono hB)).st hl
        have hf := HF.out
        have hw := HW.out
        have hmm := HM.out
        rw [List.drop_eq_getElem_cons hl] at hf hw hmm
        rw [bad_step] at hf
        rw [which_step] at hw
        rw [more_step] at hmm
        have CC := Chord_any ⟨L[k].toArray⟩ wr (tabs_on hT hbr)
        rw [show (ByteArray.mk L[k].toArray).data.toList = L[k] by simp] at CC
        have hcl := chord_len L[k]
        generalize chordL L[k] = Z at *
        obtain ⟨c, zat, zer⟩ := Z
        simp only at hf hw hmm hcl
        have lg1 : g1 < wr.heap.size := by omega
        generalize (⟨L[k].toArray⟩ : ByteArray) = sk at *
        clear HF HW HM
        by_cases he : zer = 0
        · subst he
          rw [if_neg (by simp)] at hf
          have HF := hid hf
          have HW := hid hw
          have HM := hid hmm
          clear hf hw hmm
          go_wp2_with fail
          refine CC.mono ?_
          rintro e w2 ⟨A, cc, rfl, hown, hb2⟩
          have hB2 := hbr.trans (hb2.mono hsr)
          have hs2 := hB2.size
          have CM := common_any w2.heap.size A A2 cc c2 c ks w2 (At.of_own hown) ((H2.out.below (hB2.mono hB)).mono (by omega)) (Nat.le_refl _) (by omega) l2
          have hcom := com_le c ks
          have hself : c = ks → comL c ks = ks.length := fun h => by rw [h]; exact com_self ks
          have hwhole := com_whole c ks
          generalize comL c ks = n at *
          have HSELF := hid hself
          have HWHOLE := hid hwhole
          clear hself hwhole hown hb2 CC hbr
          go_wp2_with fail
          refine CM.mono ?_
          rintro e w3 ⟨rfl, hb3⟩
          have hB3 := hB2.trans (hb3.mono hs2)
          have hs3 := hB3.size
          clear CM hb3 hB2
          by_cases hn1 : n < ks.length
          · have j1 : (n : Int) < (ks.length : Int) := by omega
            have hw2 := HW.out
            have hm2 := HM.out
            rw [if_neg (show ¬ c = ks from fun h => by have := HSELF.out h; omega)] at hw2
            rw [decide_eq_false (fun h => by omega), Bool.false_or] at hm2
            have HW2 := hid hw2
            have HM2 := hid hm2
            clear hw2 hm2 HW HM
            go_wp2
            go_roundw
            case rel => exact ⟨wh, mo, k + 1, rfl, rfl, by go_num, by omega, HF, HW2, HM2, hwh, hB3⟩
            case measure => simp [RowKit.intOf]; omega
          · have j1 : ¬ ((n : Int) < (ks.length : Int)) := by omega
            have hn : n = ks.length := by omega
            by_cases hn2 : n < c.length
            · have j2 : (n : Int) < (c.length : Int) := by omega
              have hw2 := HW.out
              have hm2 := HM.out
              rw [if_neg (show ¬ c = ks from fun h => by rw [h] at hn2; omega)] at hw2
              rw [decide_eq_true ⟨hn, by omega⟩, Bool.true_or, Bool.or_true] at hm2
              have HW2 := hid hw2
              have HM2 := hid (show (true || moreB ks (L.drop (k + 1))) = MF by rw [Bool.true_or]; exact hm2)
              clear hw2 hm2 HW HM hn
              go_wp2
              go_roundw
              case rel => exact ⟨wh, true, k + 1, rfl, rfl, by go_num, by omega, HF, HW2, HM2, hwh, hB3⟩
              case measure => simp [RowKit.intOf]; omega
            · have j2 : ¬ ((n : Int) < (c.length : Int)) := by omega
              have hw2 := HW.out
              have hm2 := HM.out
              rw [if_pos (show c = ks from HWHOLE.out hn (by omega))] at hw2
              rw [decide_eq_false (fun h => by omega), Bool.false_or] at hm2
              have HM2 := hid hm2
              clear hm2 HW HM hn
              by_cases hwn : wh < 0
              · rw [if_pos hwn] at hw2
                have HW2 := hid (show (if ((k : Nat) : Int) < 0 then whichL ks (k + 1) (L.drop (k + 1)) else (k : Int)) = WF by rw [if_neg (by omega)]; exact hw2)
                clear hw2
                go_wp2
                go_roundw
                case rel => exact ⟨(k : Int), mo, k + 1, rfl, rfl, by go_num, by omega, HF, HW2, HM2, by omega, hB3⟩
                case measure => simp [RowKit.intOf]; omega
              · rw [if_neg hwn] at hw2
                have HW2 := hid (show (if wh < 0 then whichL ks (k + 1) (L.drop (k + 1)) else wh) = WF by rw [if_neg hwn]; exact hw2)
                clear hw2
                go_wp2
                go_roundw
                case rel => exact ⟨wh, mo, k + 1, rfl, rfl, by go_num, by omega, HF, HW2, HM2, hwh, hB3⟩
                case measure => simp [RowKit.intOf]; omega
        · rw [if_pos he] at hf
          subst hf
          have hyi : ((zer : Int) == 0) = false := beq_eq_false_iff_ne.2 (by omega)
          have hz := HZ0.out
          rw [if_pos he] at hz
          subst hz
          clear hw hmm he
          go_wp2_with fail
          refine CC.mono ?_
          rintro e w2 ⟨A, cc, rfl, hown, hb2⟩
          have hB2 := hbr.trans (hb2.mono hsr)
          clear hown hb2 CC hbr
          go_wp2
          refine bodyPost_ret (v := .tuple #[.int .i64 0, .bool false, .int .i64 (zer : Int)]) (by simp [results, Tryd.results17, go_sem, *]) rfl ⟨rfl, hB2⟩
      · have i2 : ¬ ((k : Int) < (L.length : Int)) := by omega
        have hf := HF.out
        have hw := HW.out
        have hmm := HM.out
        have hke : L.drop k = [] := List.drop_of_length_le (by omega)
        rw [hke] at hf hw hmm
        have hf : 0 = FB := hf
        subst hf
        have hw : wh = WF := by
          by_cases h : wh < 0
          · rw [if_pos h] at hw
            have : (-1 : Int) = WF := hw
            omega
          · rw [if_neg h] at hw
            exact hw
        have hmm : mo = MF := by
          rw [show moreB ks [] = false from rfl, Bool.or_false] at hmm
          exact hmm
        subst hw hmm
        have hz := HZ0.out
        rw [if_neg (by simp)] at hz
        clear HF HW HM HF0 HW0 HM0 hke
        by_cases h8 : 8 < ks.length
        · have j8 : (8 : Int) < (ks.length : Int) := by omega
          rw [if_pos h8] at hz
          subst hz
          clear h8
          go_wp2
          refine bodyPost_ret (v := .tuple #[.int .i64 0, .bool false, .int .i64 4]) (by simp [results, Tryd.results17, go_sem, *]) rfl ⟨rfl, hbr⟩
        · have j8 : ¬ ((8 : Int) < (ks.length : Int)) := by omega
          rw [if_neg h8] at hz
          have HZ1 := hid hz
          clear hz
          have h8' : ks.length ≤ 8 := by omega
          clear h8
          go_wp2
          go_loopw [4, 5, 57] (fun v4 v5 v w4 => ∃ j : Nat, v4 = .int .i64 wh ∧ v5 = .bool mo ∧ v = .int .i64 j ∧ j ≤ ks.length ∧ Hid ((ks.drop j).all mayB = AF) ∧ Below w.heap.size w w4) (fun _ _ v _ => ks.length - (RowKit.intOf v).toNat)
          case atStart => exact ⟨0, rfl, rfl, rfl, by omega, hid (by rw [List.drop_zero]; exact HA0.out), hbr⟩
          case round =>
            obtain ⟨j, rfl, rfl, rfl, hj, HA, hb4⟩ := hrel
            have hs4 := hb4.size
            by_cases hjl : j < ks.length
            · have j1 : (j : Int) < (ks.length : Int) := by omega
              obtain ⟨g2, o2, rfl, hg2, y0, y1⟩ := (H2.out.below (hb4.mono hB)).ky hjl
              have ha := HA.out
              rw [List.drop_eq_getElem_cons hjl, List.all_cons] at ha
              have lg2 : g2 < wr.heap.size := by omega
              have hA5 := hb4.alloc hs4 (.cells #[.string ⟨ks[j].nm.toArray⟩, .int .u8 (ks[j].md : Int)] 31)
              have CM := may_any ⟨ks[j].nm.toArray⟩ ks[j].md (wr.alloc (.cells #[.string ⟨ks[j].nm.toArray⟩, .int .u8 (ks[j].md : Int)] 31)) (tabs_on hT hA5)
              rw [show (⟨(ByteArray.mk ks[j].nm.toArray).data.toList, ks[j].md⟩ : Ky) = ks[j] by cases ks[j]; simp] at CM
              generalize mayB ks[j] = b at *
              generalize (⟨ks[j].nm.toArray⟩ : ByteArray) = nmj at *
              generalize ks[j].md = mdj at *
              cases b with
              | true =>
                rw [Bool.true_and] at ha
                have HA2 := hid ha
                clear ha HA
                go_wp2_with fail
                refine CM.mono ?_
                rintro e w6 ⟨rfl, hb6⟩
                have hB6 := hA5.trans (hb6.mono hA5.size)
                clear CM hb6 hA5
                go_wp2
                go_roundw
                case rel => exact ⟨j + 1, rfl, rfl, by go_num, by omega, HA2, hB6⟩
                case measure => simp [RowKit.intOf]; omega
              | false =>
                rw [Bool.false_and] at ha
                subst ha
                have hz := HZ1.out
                rw [if_neg (by simp)] at hz
                subst hz
                clear HA
                go_wp2_with fail
                refine CM.mono ?_
                rintro e w6 ⟨rfl, hb6⟩
                have hB6 := hA5.trans (hb6.mono hA5.size)
                clear CM hb6 hA5
                go_wp2
                refine bodyPost_ret (v := .tuple #[.int .i64 0, .bool false, .int .i64 210]) (by simp [results, Tryd.results17, go_sem, *]) rfl ⟨rfl, hB6⟩
            · have j1 : ¬ ((j : Int) < (ks.length : Int)) := by omega
              have ha := HA.out
              rw [List.drop_of_length_le (by omega)] at ha
              have ha : true = AF := ha
              subst ha
              have hz := HZ1.out
              rw [if_pos rfl] at hz
              subst hz
              go_wp2
              refine bodyPost_ret (v := .tuple #[.int .i64 wh, .bool mo, .int .i64 0]) (by simp [results, Tryd.results17, go_sem, *]) rfl ⟨rfl, hb4⟩
end Go.Proofs.YtddigbhijfpmkaaDoor
