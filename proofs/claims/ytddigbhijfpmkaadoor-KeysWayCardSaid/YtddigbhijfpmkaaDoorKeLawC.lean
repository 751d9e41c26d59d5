/- Layer 21: the walk of KeysWay. -/
import Derived.Test.YtddigbhijfpmkaaDoorKeWp
namespace Go.Proofs.YtddigbhijfpmkaaDoor
set_option linter.unusedVariables false
set_option linter.unusedSimpArgs false
set_option maxRecDepth 100000
open Go.RowKit Go.Shelf Go.Lib
set_option maxRecDepth 100000
set_option maxHeartbeats 8000000

theorem own_cap {w : World} {base : Nat} {e : TypeId} {size n m c : Nat} {A : Option Addr} {xs : List Value} (h : w.ownsRow base e size (.slice A n c) m xs) : n ≤ c ∧ c ≤ maxLen := by
  rcases h.2 with ⟨hv, _⟩ | ⟨g, cap, cur, hv, hb, hh, hn', hcap, hcs, ht⟩
  · injection hv with h1 h2 h3
    subst h2
    subst h3
    exact ⟨Nat.le_refl _, Nat.zero_le _⟩
  · injection hv with h1 h2 h3
    subst h2
    subst h3
    exact ⟨by omega, by omega⟩
theorem kys_take : ∀ (l : List Ky) (i : Nat), kys (l.take i) = (kys l).take (i * 2)
  | [], i => by simp [kys]
  | a :: l, 0 => by simp [kys]
  | a :: l, i + 1 => by
    rw [List.take_succ_cons, show (i + 1) * 2 = i * 2 + 2 by omega]
    simp only [kys, List.take_succ_cons, kys_take l i]
theorem cutB_ne : ∀ l : By, cutB l ≠ []
  | [] => by simp [cutB]
  | b :: t => by
    rw [cutB_cons]
    split
    · simp
    · split
      · simp
      · simp
theorem chordG_ge : ∀ (ps : List By) (acc : List Ky) (at_ : Nat), (chordG acc at_ ps).2.2 = 0 → acc.length + ps.length = (chordG acc at_ ps).1.length
  | [], acc, at_, _ => rfl
  | p :: ps, acc, at_, h => by
    rw [chordG_cons] at h ⊢
    split
    · rename_i h1
      rw [if_pos h1] at h
      exact absurd h (by decide)
    · rename_i h1
      rw [if_neg h1] at h
      split
      · rename_i h2
        rw [if_pos h2] at h
        exact absurd h h2
      · rename_i h2
        rw [if_neg h2] at h
        rw [← chordG_ge ps _ _ h, List.length_append]
        simp
        omega
theorem chord_pos {l : By} (h : (chordL l).2.2 = 0) : 0 < (chordL l).1.length := by
  unfold chordL at h ⊢
  split
  · rename_i h1
    rw [if_pos h1] at h
    exact absurd h (by decide)
  · rename_i h1
    rw [if_neg h1] at h
    rw [← chordG_ge _ _ _ h]
    have := List.length_pos_iff.2 (cutB_ne l)
    omega
theorem walkKeysWay (w : World) (hT : Tabs w) (A : Option Addr) (c : Nat) (L : List By) (n : Int) (h1 : At w.heap.size w A (strs L)) (l1 : L.length * 16 ≤ 140737488351232) :
    Calls Tryd.prog 6 #[.slice A L.length c, .int .i64 n] w fun e w' => e = .returned (.bool true) ∧ Below w.heap.size w w' := by
  have CA := awake_any w hT
  have CM := fun w1 (hb : Below w.heap.size w w1) => Match_any w.heap.size A none c 0 L [] w1 (tabs_on hT hb) (h1.below hb) (fun h => by simp [kys] at h) hb.size (by omega) (by simp)
  have CI := fun ks B A2 c2 w1 (hb : Below w.heap.size w w1) (hB : w.heap.size ≤ B) a2 hB2 hl => Match_any B A A2 c c2 L ks w1 (tabs_on hT hb) ((h1.below hb).mono hB) a2 hB2 (by omega) hl
  have CC := fun s w1 (hb : Below w.heap.size w w1) => Chord_any s w1 (tabs_on hT hb)
  have hnil := @match_nil L
  obtain ⟨⟨va, vb, ve⟩, hV⟩ : ∃ y, matchL L [] = y := ⟨_, rfl⟩
  rw [hV] at CM hnil
  unfold MatchV at CM
  simp only [List.length_nil] at CM
  simp only at hnil
  have HCI := hid CI
  have HCC := hid CC
  have H1 := hid h1
  clear CI CC hV hT h1
  by_cases hve : ve = 0
  · obtain ⟨h256, hbad⟩ := hnil hve
    subst hve
    by_cases hn0 : n < 0
    · have n0 : decide (n < 0) = true := decide_eq_true hn0
      clear hbad hnil
      go_enter Tryd.func6, Tryd.ntmps6
      go_wp2_with fail
      with_reducible refine CA.mono ?_
      rintro e w1 ⟨rfl, hb1⟩
      have C := CM w1 hb1
      clear CA CM
      go_wp2_with fail
      with_reducible refine C.mono ?_
      rintro e w2 ⟨rfl, hb2⟩
      go_wp2
      go_ret
      exact ⟨rfl, hb1.trans (hb2.mono hb1.size)⟩
    obtain ⟨m, rfl⟩ := Int.eq_ofNat_of_zero_le (Int.not_lt.1 hn0)
    have n0 : decide ((m : Int) < 0) = false := decide_eq_false (by omega)
    by_cases hm : L.length ≤ m
    · have m0 : decide ((L.length : Int) ≤ (m : Int)) = true := decide_eq_true (by omega)
      clear hbad hnil
      go_enter Tryd.func6, Tryd.ntmps6
      go_wp2_with fail
      with_reducible refine CA.mono ?_
      rintro e w1 ⟨rfl, hb1⟩
      have C := CM w1 hb1
      clear CA CM
      go_wp2_with fail
      with_reducible refine C.mono ?_
      rintro e w2 ⟨rfl, hb2⟩
      go_wp2
      go_ret
      exact ⟨rfl, hb1.trans (hb2.mono hb1.size)⟩
    have m0 : decide ((L.length : Int) ≤ (m : Int)) = false := decide_eq_false (by omega)
    have m1 : (m : Int) < (L.length : Int) := by omega
    have hmL : m < L.length := by omega
    have hc0 := bad_all L hbad L[m] (List.getElem_mem hmL)
    have hpos := chord_pos hc0
    have hl8 := chord_len L[m]
    have HW := hid (fun i hi => way (L := L) (n := m) (i := i) h256 hbad hmL hi)
    have HLE := hid (fun ks hle => which_le ks L 0 m hmL hle)
    have HSP := hid (fun ks => which_spec ks L 0)
    obtain ⟨⟨K, ka, ke⟩, hK⟩ : ∃ y, chordL L[m] = y := ⟨_, rfl⟩
    have HK := hid hK
    rw [hK] at hc0 hpos hl8 HW HLE
    simp only at hc0 hpos hl8 HW HLE
    subst hc0
    clear hbad hnil hK
    go_enter Tryd.func6, Tryd.ntmps6
    go_wp2_with fail
    with_reducible refine CA.mono ?_
    rintro e w1 ⟨rfl, hb1⟩
    have C := CM w1 hb1
    clear CA CM
    go_wp2_with fail
    with_reducible refine C.mono ?_
    rintro e w2 ⟨rfl, hb2⟩
    have hB2 := hb1.trans (hb2.mono hb1.size)
    clear C hb1 hb2
    obtain ⟨g0, o0, rfl, hg0, x0⟩ := (H1.out.below hB2).st hmL
    have C2 := HCC.out ⟨L[m].toArray⟩ w2 hB2
    rw [show (ByteArray.mk L[m].toArray).data.toList = L[m] from rfl, HK.out] at C2
    unfold ChordP at C2
    simp only at C2
    obtain ⟨sb, hsb⟩ : ∃ y, (⟨L[m].toArray⟩ : ByteArray) = y := ⟨_, rfl⟩
    rw [hsb] at C2 x0
    clear hsb
    go_wp2_with fail
    with_reducible refine C2.mono ?_
    rintro e w3 ⟨A3, c3, rfl, hown3, hb3⟩
    have hB3 := hB2.trans (hb3.mono hB2.size)
    obtain ⟨hcap, _⟩ := own_cap hown3
    have hAt3 := At.of_own hown3
    obtain ⟨g3, rfl, hg3, hlt3⟩ := own_head hown3 hpos
    have HA3 := hid hAt3
    clear C2 hb3 x0 hown3 hAt3
    have hs3 := hB3.size
    obtain ⟨kn, hkn⟩ : ∃ y, K.length = y := ⟨_, rfl⟩
    have HKN := hid hkn
    rw [hkn] at hpos hl8 hcap HW
    go_wp2
    clear hkn
    go_loopw [11] (fun v wr => ∃ i : Nat, v = .int .i64 i ∧ i ≤ kn + 1 ∧ Below w3.heap.size w3 wr) (fun v _ => kn + 1 - (RowKit.intOf v).toNat)
    case atStart => exact ⟨0, rfl, by omega, Below.refl _ _⟩
    case round =>
      obtain ⟨i, rfl, hi, hbr⟩ := hrel
      have hsr := hbr.size
      have hBr := hB3.trans (hbr.mono hB3.size)
      by_cases hik : i ≤ kn
      · have i1 : (i : Int) ≤ (kn : Int) := by omega
        have i2 : decide ((i : Int) ≤ (kn : Int)) = true := decide_eq_true i1
        have i3 : (i : Int) ≤ (c3 : Int) := by omega
        obtain ⟨hM, hmore⟩ := HW.out i hik
        have hlen : (K.take i).length = i := by rw [List.length_take, HKN.out]; omega
        have C := HCI.out (K.take i) w3.heap.size (some ⟨g3, 0, none⟩) c3 wr hBr hs3 (by rw [kys_take]; exact (HA3.out.below hbr).take _) hsr (by omega)
        rw [hM, hlen] at C
        unfold MatchV at C
        simp only at C
        have hsp := HSP.out (K.take i)
        have hle : i = kn → (0 : Int) ≤ whichL (K.take i) 0 L ∧ whichL (K.take i) 0 L ≤ (m : Int) := fun e => by
          have ht : K.take i = K := by rw [List.take_of_length_le (by rw [HKN.out]; omega)]
          have := HLE.out K rfl
          rw [ht]
          omega
        obtain ⟨wi, hwi⟩ : ∃ y, whichL (K.take i) 0 L = y := ⟨_, rfl⟩
        obtain ⟨mo, hmo⟩ : ∃ y, moreB (K.take i) L = y := ⟨_, rfl⟩
        rw [hwi] at C hsp hle
        rw [hmo] at C hmore
        have hcase : (i < kn ∧ mo = true) ∨ (i = kn ∧ ¬ wi < 0 ∧ ¬ (m : Int) < wi) := by
          by_cases h : i < kn
          · exact .inl ⟨h, hmore h⟩
          · have := hle (by omega)
            exact .inr ⟨by omega, by omega, by omega⟩
        have HLEN := hid hlen
        clear hM hmore hlen hle hwi hmo
        go_wp2_with fail
        with_reducible refine C.mono ?_
        rintro e w4 ⟨rfl, hb4⟩
        have hB4 := hBr.trans (hb4.mono hBr.size)
        have hbr4 := hbr.trans (hb4.mono hbr.size)
        clear C hb4
        rcases hsp with rfl | ⟨j, hj, hwj, hch⟩
        · rcases hcase with ⟨q1, rfl⟩ | ⟨_, q3, _⟩
          · have q2 : (i : Int) < (kn : Int) := by omega
            have q3 : decide ((i : Int) < (kn : Int)) = true := decide_eq_true q2
            have q4 : decide (i < kn) = true := decide_eq_true q1
            have q5 : ((i : Int) == (kn : Int)) = false := beq_eq_false_iff_ne.2 (by omega)
            have q6 : (i == kn) = false := beq_eq_false_iff_ne.2 (by omega)
            have q7 : ¬ i = kn := by omega
            go_wp2
            go_roundw
            case rel => exact ⟨i + 1, by go_num, by omega, hbr4⟩
            case measure => simp [RowKit.intOf]; omega
          · omega
        · rw [Nat.zero_add] at hwj
          subst hwj
          have j1 : (j : Int) < (L.length : Int) := by omega
          have j2 : decide ((0 : Int) ≤ (j : Int)) = true := decide_eq_true (by omega)
          have j3 : (0 : Int) ≤ (j : Int) := by omega
          obtain ⟨g5, o5, e5, hg5, y0⟩ := (H1.out.below hB4).st hj
          have e6 : g0 = g5 ∧ o0 = o5 := by
            injection e5 with e5
            injection e5 with e1 e2
            exact ⟨e1, e2⟩
          obtain ⟨rfl, rfl⟩ := e6
          have C2 := HCC.out ⟨L[j].toArray⟩ w4 hB4
          rw [show (ByteArray.mk L[j].toArray).data.toList = L[j] from rfl] at C2
          unfold ChordP at C2
          rw [hch, HLEN.out] at C2
          obtain ⟨da, hda⟩ : ∃ y, (chordL L[j]).2.1 = y := ⟨_, rfl⟩
          obtain ⟨de, hde⟩ : ∃ y, (chordL L[j]).2.2 = y := ⟨_, rfl⟩
          rw [hda, hde] at C2
          obtain ⟨sj, hsj⟩ : ∃ y, (⟨L[j].toArray⟩ : ByteArray) = y := ⟨_, rfl⟩
          rw [hsj] at C2 y0
          clear hsj hch hda hde e5
          rcases hcase with ⟨q1, rfl⟩ | ⟨q1, q2, q3⟩
          · have q2 : (i : Int) < (kn : Int) := by omega
            have q3 : decide ((i : Int) < (kn : Int)) = true := decide_eq_true q2
            have q4 : decide (i < kn) = true := decide_eq_true q1
            have q5 : ((i : Int) == (kn : Int)) = false := beq_eq_false_iff_ne.2 (by omega)
            have q6 : (i == kn) = false := beq_eq_false_iff_ne.2 (by omega)
            have q7 : ¬ i = kn := by omega
            go_wp2_with fail
            with_reducible refine C2.mono ?_
            rintro e w5 ⟨A5, c5, rfl, _, hb5⟩
            have hbr5 := hbr4.trans (hb5.mono hbr4.size)
            clear C2 hb5
            go_wp2
            go_roundw
            case rel => exact ⟨i + 1, by go_num, by omega, hbr5⟩
            case measure => simp [RowKit.intOf]; omega
          · have q4 : ¬ m < j := by omega
            have q5 : ¬ i < kn := by omega
            have q6 : decide ((i : Int) < (kn : Int)) = false := decide_eq_false (by omega)
            have q7 : decide (i < kn) = false := decide_eq_false (by omega)
            have q8 : decide ((m : Int) < (j : Int)) = false := decide_eq_false (by omega)
            have q9 : decide (m < j) = false := decide_eq_false q4
            have r1 : ((i : Int) == (kn : Int)) = true := beq_iff_eq.2 (by omega)
            have r2 : (i == kn) = true := beq_iff_eq.2 q1
            have r3 : decide ((j : Int) < 0) = false := decide_eq_false (by omega)
            have r4 : ¬ (i : Int) < (kn : Int) := by omega
            go_wp2_with fail
            with_reducible refine C2.mono ?_
            rintro e w5 ⟨A5, c5, rfl, _, hb5⟩
            have hbr5 := hbr4.trans (hb5.mono hbr4.size)
            clear C2 hb5
            go_wp2
            go_roundw
            case rel => exact ⟨i + 1, by go_num, by omega, hbr5⟩
            case measure => simp [RowKit.intOf]; omega
      · have i1 : ¬ ((i : Int) ≤ (kn : Int)) := by omega
        have i2 : decide ((i : Int) ≤ (kn : Int)) = false := decide_eq_false i1
        go_wp2
        go_ret
        exact ⟨rfl, hBr⟩
  · have e1 : ((ve : Int) == 0) = false := beq_eq_false_iff_ne.2 (by omega)
    have e2 : ((ve : Int) != 0) = true := by rw [bne, e1]; rfl
    clear hnil hve
    go_enter Tryd.func6, Tryd.ntmps6
    go_wp2_with fail
    with_reducible refine CA.mono ?_
    rintro e w1 ⟨rfl, hb1⟩
    have C := CM w1 hb1
    clear CA CM
    go_wp2_with fail
    with_reducible refine C.mono ?_
    rintro e w2 ⟨rfl, hb2⟩
    go_wp2
    go_ret
    exact ⟨rfl, hb1.trans (hb2.mono hb1.size)⟩
end Go.Proofs.YtddigbhijfpmkaaDoor
