/- Layer 21: the reference's words and names; whether a key may be, both sides. (Printed by gen_d.py.) -/
import Derived.Test.YtddigbhijfpmkaaDoorKeC
namespace Go.Proofs.YtddigbhijfpmkaaDoor
set_option linter.unusedVariables false
set_option linter.unusedSimpArgs false
set_option maxRecDepth 100000
open Go.RowKit Go.Shelf Go.Lib
set_option maxRecDepth 100000

def strs (L : List By) : List Value := L.map fun l => .string ⟨l.toArray⟩
theorem strs_len (L : List By) : (strs L).length = L.length := by simp [strs]
theorem strs_append (L M : List By) : strs (L ++ M) = strs L ++ strs M := by simp [strs]
theorem strs_at (L : List By) (k : Nat) (h : k < L.length) : (strs L)[k]? = some (.string ⟨L[k].toArray⟩) := by simp [strs, h]
theorem strs_one (L : List By) : ∀ v ∈ strs L, v.oneCell' = true := by
  intro v h
  simp only [strs, List.mem_map] at h
  obtain ⟨a, _, rfl⟩ := h
  rfl
theorem At.st {B : Nat} {w : World} {A : Option Addr} {L : List By} (h : At B w A (strs L)) {k : Nat} (hk : k < L.length) : ∃ g o, A = some ⟨g, o, none⟩ ∧ g < B ∧ w.cell? ⟨g, o + k, none⟩ = some (.string ⟨L[k].toArray⟩) := by
  obtain ⟨g, o, hA, hg, hc⟩ := h (by rw [strs_len]; omega)
  exact ⟨g, o, hA, hg, hc _ _ (strs_at L k hk)⟩
set_option maxHeartbeats 4000000 in
theorem rwords_any (w : World) : Calls Tryd.prog 62 #[] w fun e w' => ∃ g, e = .returned (.slice (some ⟨g, 0, none⟩) 28 28) ∧ w'.heap[g]? = some (.cells #[.string { data := #[101, 110, 116, 101, 114] }, .string { data := #[116, 97, 98] }, .string { data := #[101, 115, 99, 97, 112, 101] }, .string { data := #[115, 112, 97, 99, 101] }, .string { data := #[112, 108, 117, 115] }, .string { data := #[98, 97, 99, 107, 115, 112, 97, 99, 101] }, .string { data := #[100, 101, 108, 101, 116, 101] }, .string { data := #[105, 110, 115, 101, 114, 116] }, .string { data := #[117, 112] }, .string { data := #[100, 111, 119, 110] }, .string { data := #[108, 101, 102, 116] }, .string { data := #[114, 105, 103, 104, 116] }, .string { data := #[104, 111, 109, 101] }, .string { data := #[101, 110, 100] }, .string { data := #[112, 97, 103, 101, 117, 112] }, .string { data := #[112, 97, 103, 101, 100, 111, 119, 110] }, .string { data := #[102, 49] }, .string { data := #[102, 50] }, .string { data := #[102, 51] }, .string { data := #[102, 52] }, .string { data := #[102, 53] }, .string { data := #[102, 54] }, .string { data := #[102, 55] }, .string { data := #[102, 56] }, .string { data := #[102, 57] }, .string { data := #[102, 49, 48] }, .string { data := #[102, 49, 49] }, .string { data := #[102, 49, 50] }] 9 (0, 0)) ∧ Below w.heap.size w w' := by
  go_enter Tryd.func62, Tryd.ntmps62
  go_wp2
  go_ret
  exact ⟨_, rfl, heap_alloc_new _ _, (Below.refl _ _).alloc (Nat.le_refl _) _⟩
theorem words_len : wordsL.length = 28 := by rfl
theorem words_cells : (#[.string { data := #[101, 110, 116, 101, 114] }, .string { data := #[116, 97, 98] }, .string { data := #[101, 115, 99, 97, 112, 101] }, .string { data := #[115, 112, 97, 99, 101] }, .string { data := #[112, 108, 117, 115] }, .string { data := #[98, 97, 99, 107, 115, 112, 97, 99, 101] }, .string { data := #[100, 101, 108, 101, 116, 101] }, .string { data := #[105, 110, 115, 101, 114, 116] }, .string { data := #[117, 112] }, .string { data := #[100, 111, 119, 110] }, .string { data := #[108, 101, 102, 116] }, .string { data := #[114, 105, 103, 104, 116] }, .string { data := #[104, 111, 109, 101] }, .string { data := #[101, 110, 100] }, .string { data := #[112, 97, 103, 101, 117, 112] }, .string { data := #[112, 97, 103, 101, 100, 111, 119, 110] }, .string { data := #[102, 49] }, .string { data := #[102, 50] }, .string { data := #[102, 51] }, .string { data := #[102, 52] }, .string { data := #[102, 53] }, .string { data := #[102, 54] }, .string { data := #[102, 55] }, .string { data := #[102, 56] }, .string { data := #[102, 57] }, .string { data := #[102, 49, 48] }, .string { data := #[102, 49, 49] }, .string { data := #[102, 49, 50] }] : Array Value) = (strs wordsL).toArray := by rfl
theorem rwords_at (w : World) : Calls Tryd.prog 62 #[] w fun e w' => ∃ A, e = .returned (.slice A 28 28) ∧ At w'.heap.size w' A (strs wordsL) ∧ Below w.heap.size w w' := by
  refine (rwords_any w).mono ?_
  rintro e w' ⟨g, rfl, hg, hb⟩
  exact ⟨_, rfl, At.blk hg words_cells, hb⟩
theorem valid_whole {l : By} (h0 : l ≠ []) (hw : wd l = l.length) : Lib.validD l = decide (¬ Brk l) := by
  rw [Lib.validD_step l h0]
  by_cases h : Brk l
  · rw [if_pos (by rw [show decodeL l = _ from h]; exact ⟨rfl, rfl⟩), decide_eq_false (fun x => x h)]
  · rw [if_neg (fun x => h (Prod.ext x.1 x.2)), decide_eq_true h, show (decodeL l).2 = l.length from hw, List.drop_length, Lib.validD_nil]
theorem one_ascii {l : By} (h0 : l ≠ []) (hw : wd l = l.length) (hb : ¬ Brk l) {c : UInt8} (hc : c.toNat < 128) : rn l = c.toNat ↔ l = [c] := by
  constructor
  · intro hr
    unfold Brk at hb
    unfold rn at hr
    unfold wd at hw
    rw [decodeL_eq l] at hb hr hw
    have hl : l.length = 1 ∧ (l.getD 0 0).toNat = c.toNat := by
      rcases decodeN_shape l.length (l.getD 0 0).toNat (l.getD 1 0).toNat (l.getD 2 0).toNat (l.getD 3 0).toNat with ⟨k, e⟩ | ⟨c1, c2, c3, cv, e⟩ | ⟨c1, c2, c3, c4, cv, cs, e⟩ | ⟨c1, c2, c3, c4, c5, cv, cw, e⟩ | e
      all_goals
        rw [e] at hr hw
        simp only at hr hw
      · exact ⟨hw.symm, hr⟩
      · omega
      · omega
      · omega
      · omega
    cases l with
    | nil => exact absurd rfl h0
    | cons b t =>
      have ht : t = [] := List.eq_nil_of_length_eq_zero (by have := hl.1; simp at this; simp [this])
      subst ht
      have := UInt8.toNat_inj.1 hl.2
      simp at this
      rw [this]
  · rintro rfl
    unfold rn
    rw [ascii_dec [] hc]
theorem mem_take {L : List By} {k : Nat} (hk : k < L.length) {l : By} : l ∈ L.take (k + 1) ↔ l ∈ L.take k ∨ l = L[k] := by
  rw [List.take_succ_eq_append_getElem hk, List.mem_append, List.mem_singleton]
set_option maxHeartbeats 8000000 in
theorem rname_any (s : ByteArray) (w : World) (hT : Tabs w) (hs : s.size ≤ 9223372036854775807) : Calls Tryd.prog 43 #[.string s] w fun e w' => e = .returned (.bool (nmB s.data.toList)) ∧ Below w.heap.size w w' := by
  have CW := rwords_at w
  have hlen := ba_len s
  have CD := fun w1 (hb : Below w.heap.size w w1) => dec_any s w1 (tabs_on hT hb)
  have CV := fun w1 (hb : Below w.heap.size w w1) => valid_any s w1 (tabs_on hT hb) hs
  have CX := fun w1 => rWidth_any (rnG s.data.toList : Int) w1
  have HW : s.data.toList ∈ wordsL → nmB s.data.toList = true := nmB_word
  have HR : ¬ s.data.toList ∈ wordsL → nmB s.data.toList = runeOk s.data.toList := nmB_rune
  obtain ⟨b, hb⟩ : ∃ b, nmB s.data.toList = b := ⟨_, rfl⟩
  have hfin : ¬ s.data.toList ∈ wordsL →
      (wdG s.data.toList ≠ s.data.toList.length ∧ b = false) ∨
      (wdG s.data.toList = s.data.toList.length ∧ s.data.toList.length = 0 ∧ b = false) ∨
      (wdG s.data.toList = s.data.toList.length ∧ 0 < s.data.toList.length ∧ Lib.validD s.data.toList = false ∧ b = false) ∨
      (wdG s.data.toList = s.data.toList.length ∧ 0 < s.data.toList.length ∧ Lib.validD s.data.toList = true ∧ b = (decide (wid (rnG s.data.toList : Int) ≠ 0) && (s.data.toList != [32]) && (s.data.toList != [43]))) := by
    intro hn
    have hb2 := HR hn
    rw [hb] at hb2
    generalize s.data.toList = l at *
    unfold runeOk at hb2
    by_cases h0 : l = []
    · subst h0
      right; left
      exact ⟨rfl, rfl, by rw [hb2]; rfl⟩
    · have hp : 0 < l.length := List.length_pos_iff.2 h0
      unfold wdG rnG
      simp only [if_neg h0]
      by_cases h1 : wd l = l.length
      · by_cases h2 : Brk l
        · right; right; left
          exact ⟨h1, hp, by rw [valid_whole h0 h1, decide_eq_false (fun x => x h2)], by rw [hb2, decide_eq_false (fun x => x.2.2.1 h2)]⟩
        · right; right; right
          refine ⟨h1, hp, by rw [valid_whole h0 h1, decide_eq_true h2], ?_⟩
          have e1 := one_ascii h0 h1 h2 (c := 32) (by decide)
          have e2 := one_ascii h0 h1 h2 (c := 43) (by decide)
          have f1 : (32 : UInt8).toNat = 32 := by decide
          have f2 : (43 : UInt8).toNat = 43 := by decide
          rw [f1] at e1
          rw [f2] at e2
          rw [hb2, Bool.eq_iff_iff]
          simp only [decide_eq_true_eq, Bool.and_eq_true, bne_iff_ne, ne_eq, e1, e2]
          exact ⟨fun h => ⟨⟨h.2.2.2.2.2, h.2.2.2.1⟩, h.2.2.2.2.1⟩, fun h => ⟨h0, h1, h2, h.1.2, h.2, h.1.1⟩⟩
      · left
        exact ⟨h1, by rw [hb2, decide_eq_false (fun x => h1 x.2.1)]⟩
  rw [hb]
  have HF := hid hfin
  have HW2 := hid HW
  have HB := hid hb
  have HLEN := hid hlen
  clear hfin HW HR hb hlen
  go_enter Tryd.func43, Tryd.ntmps43
  go_wp2_with fail
  refine CW.mono ?_
  rintro e w1 ⟨A, rfl, hA, hb1⟩
  have HA := hid hA
  clear hA CW
  have hs1 := hb1.size
  go_wp2
  go_loopw [4] (fun i wr => ∃ k : Nat, k ≤ 28 ∧ i = .int .i64 k ∧ Hid (¬ s.data.toList ∈ wordsL.take k) ∧ Below w1.heap.size w1 wr) (fun i _ => 28 - (RowKit.intOf i).toNat)
  case atStart => exact ⟨0, by omega, rfl, hid (by simp), Below.refl _ _⟩
  case round =>
    obtain ⟨k, hk, rfl, HN, hbr⟩ := hrel
    have hsr := hbr.size
    by_cases hlt : k < 28
    · have hli : (k : Int) < 28 := by omega
      have hkL : k < wordsL.length := by rw [words_len]; exact hlt
      obtain ⟨g, off, rfl, hg, c0⟩ := (HA.out.below hbr).st hkL
      have hmt := mem_take hkL (l := s.data.toList)
      have hmem := List.getElem_mem hkL
      obtain ⟨x, hx⟩ : ∃ x, wordsL[k]'hkL = x := ⟨_, rfl⟩
      rw [hx] at c0 hmt hmem
      have HM := hid hmt
      have HMM := hid hmem
      clear hmt hmem hx
      by_cases he : x = s.data.toList
      · have hq : (x == s.toList) = true := by rw [ByteArray.toList_eq, he]; simp
        have hbt : b = true := by rw [← HB.out]; exact HW2.out (he ▸ HMM.out)
        have HE := hid he
        clear he
        subst hbt
        go_wp2
        go_ret
        exact ⟨rfl, hb1.trans (hbr.mono hs1)⟩
      · have hq : (x == s.toList) = false := by rw [ByteArray.toList_eq]; exact beq_eq_false_iff_ne.2 he
        have HE := hid he
        clear he
        go_wp2
        go_roundw
        case rel => exact ⟨k + 1, by omega, by go_num, hid (fun h => (HM.out.1 h).elim HN.out (fun e => HE.out e.symm)), hbr⟩
        case measure => simp [RowKit.intOf]; omega
    · have hli : ¬ ((k : Int) < 28) := by omega
      have hnot : ¬ s.data.toList ∈ wordsL := by
        have := HN.out
        rwa [show k = wordsL.length by rw [words_len]; omega, List.take_length] at this
      have hB := hb1.trans (hbr.mono hs1)
      have hcase := HF.out hnot
      clear hnot HF HW2 HB HN HA
      have D := CD wr hB
      go_wp2_with fail
      refine D.mono ?_
      rintro e w2 ⟨rfl, hb2⟩
      have hB2 := hB.trans (hb2.mono hB.size)
      have V := CV w2 hB2
      clear CD CV D hb2
      have HLN := HLEN.out
      clear HLEN
      have hpin := fun w1 => CX w1
      generalize wdG s.data.toList = n at *
      generalize rnG s.data.toList = r at *
      generalize wid (r : Int) = wi at *
      generalize Lib.validD s.data.toList = v at *
      have hL1 : (s.data.toList == [32]) = (s.toList == [32]) := by rw [ByteArray.toList_eq]
      have hL2 : (s.data.toList == [43]) = (s.toList == [43]) := by rw [ByteArray.toList_eq]
      simp only [bne, hL1, hL2] at hcase
      clear hL1 hL2
      generalize s.data.toList.length = N at *
      subst HLN
      rcases hcase with ⟨h1, rfl⟩ | ⟨h1, h2, rfl⟩ | ⟨h1, h2, rfl, rfl⟩ | ⟨h1, h2, rfl, rfl⟩
      · have q1 : ((n : Int) == (s.size : Int)) = false := beq_eq_false_iff_ne.2 (by omega)
        have q2 : (n == s.size) = false := beq_eq_false_iff_ne.2 h1
        clear h1
        go_wp2
        go_ret
        exact ⟨rfl, hB2⟩
      · have q0 : (s.size : Int) = 0 := by omega
        have q2 : n = 0 := by omega
        subst q2
        clear h1 h2
        go_wp2
        go_ret
        exact ⟨rfl, hB2⟩
      · have q0 : (0 : Int) < (s.size : Int) := by omega
        have q3 : 0 < s.size := h2
        subst h1
        go_wp2_with fail
        refine V.mono ?_
        rintro e w3 ⟨rfl, hb3⟩
        go_wp2
        go_ret
        exact ⟨rfl, hB2.trans (hb3.mono hB2.size)⟩
      · have q0 : (0 : Int) < (s.size : Int) := by omega
        have q3 : 0 < s.size := h2
        subst h1
        go_wp2_with fail
        refine V.mono ?_
        rintro e w3 ⟨rfl, hb3⟩
        have hB3 := hB2.trans (hb3.mono hB2.size)
        clear hb3 V
        go_wp2_with fail
        refine (CX w3).mono ?_
        rintro e w4 ⟨rfl, hb4⟩
        have hB4 := hB3.trans (hb4.mono hB3.size)
        clear hb4 hB3
        by_cases hw0 : wi = 0
        · subst hw0
          go_wp2
          go_ret
          exact ⟨rfl, hB4⟩
        · have q5 : ((wi : Int) == 0) = false := beq_eq_false_iff_ne.2 (by omega)
          have q6 : (wi == 0) = false := beq_eq_false_iff_ne.2 hw0
          have q7 : ((wi : Int) != 0) = true := by rw [bne, q5]; rfl
          have q8 : decide (wi ≠ 0) = true := decide_eq_true hw0
          clear hw0
          rcases Bool.eq_false_or_eq_true (s.toList == [32]) with g1 | g1 <;> rcases Bool.eq_false_or_eq_true (s.toList == [43]) with g2 | g2
          all_goals
            go_wp2
            go_ret
            refine ⟨ret_bool ?_, hB4⟩
            rw [q8, g1, g2]
            try rw [q7]
            try rfl
end Go.Proofs.YtddigbhijfpmkaaDoor
