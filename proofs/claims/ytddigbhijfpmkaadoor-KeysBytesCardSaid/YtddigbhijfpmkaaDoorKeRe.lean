/- Layer 21: plain of the reference. (Printed by gen_re.py.) -/
import Derived.Test.YtddigbhijfpmkaaDoorKeRd
namespace Go.Proofs.YtddigbhijfpmkaaDoor
set_option linter.unusedVariables false
set_option linter.unusedSimpArgs false
set_option maxRecDepth 100000
open Go.RowKit Go.Shelf Go.Lib
set_option maxRecDepth 100000
set_option maxHeartbeats 8000000

theorem firstT_small (b : Nat) : firstT b % 8 ≤ 4 := by
  unfold firstT
  repeat' split
  all_goals decide
theorem full_long {l : By} (h : 4 ≤ l.length) : fullB l = true := by
  rw [full_iff]
  exact ⟨by omega, .inl (by have := firstT_small (l.getD 0 0).toNat; omega)⟩
theorem plain_some {l : By} {k : Ky} (h : singleL (l.getD 0 0).toNat = some k) : plainL l = (k, 1) := by unfold plainL; rw [h]
theorem plain_none {l : By} (h : singleL (l.getD 0 0).toNat = none) : plainL l = if Brk l then (if fullB l then (noKy, 1) else (noKy, 0)) else if wid (rn l : Int) = 0 then (noKy, wd l) else (⟨l.take (wd l), 0⟩, wd l) := by unfold plainL; rw [h]
theorem single_low {x : Nat} (h0 : x ≠ 0) (h1 : x ≠ 9) (h2 : x ≠ 13) (h : x ≤ 26) : singleL x = some ⟨[(96 + x).toUInt8], 2⟩ := by
  unfold singleL
  rw [if_neg h2, if_neg h1, if_neg (by omega), if_neg (by omega), if_neg (by omega), if_neg h0, if_pos (by omega)]
theorem single_mid {x : Nat} (h : 28 ≤ x) (h' : x ≤ 31) : singleL x = some ⟨[(64 + x).toUInt8], 2⟩ := by
  unfold singleL
  rw [if_neg (by omega), if_neg (by omega), if_neg (by omega), if_neg (by omega), if_neg (by omega), if_neg (by omega), if_neg (by omega), if_pos (by omega)]
theorem single_off {x : Nat} (h1 : 27 ≤ x) (h2 : x = 27 ∨ 31 < x) (h3 : x ≠ 127) (h4 : x ≠ 32) (h5 : x ≠ 43) : singleL x = none := by
  unfold singleL
  rw [if_neg (by omega), if_neg (by omega), if_neg h3, if_neg h4, if_neg h5, if_neg (by omega), if_neg (by omega), if_neg (by omega)]
theorem rplain_any (s : ByteArray) (w : World) (hT : Tabs w) (h0 : 0 < s.size) (hs : s.size ≤ 4000000) : Calls Tryd.prog 36 #[.string s] w fun e w' => e = .returned (pV (plainL s.data.toList)) ∧ Below w.heap.size w w' := by
  obtain ⟨Z, hZ⟩ : ∃ x, plainL s.data.toList = x := ⟨_, rfl⟩
  rw [hZ]
  have hg0 : s.data.toList.getD 0 0 = s[0] := by
    rw [List.getD_eq_getElem?_getD, List.getElem?_eq_getElem (by rw [ba_len]; exact h0)]
    rfl
  have hsome := @plain_some s.data.toList
  have hnone := @plain_none s.data.toList
  rw [hg0, hZ] at hsome hnone
  have hne : s.data.toList ≠ [] := fun h => by have := ba_len s; rw [h] at this; simp at this; omega
  obtain ⟨x, hx⟩ : ∃ x, s[0].toNat = x := ⟨_, rfl⟩
  have hx8 : x < 256 := by rw [← hx]; exact s[0].toNat_lt
  rw [hx] at hsome hnone
  have hB1 := (Below.refl w.heap.size w).alloc (Nat.le_refl _) (.cells #[.string { data := #[] }, .int .u8 0] 31)
  have bx1 : Box2 (w.alloc (.cells #[.string { data := #[] }, .int .u8 0] 31)) w.heap.size { data := #[] } 0 := box_new w _ 0
  clear hZ hg0
  by_cases h13 : x = 13
  · subst h13
    have HZ := hid (hsome (k := ⟨[101, 110, 116, 101, 114], 0⟩) rfl)
    clear hsome hnone bx1 hne
    go_enter Tryd.func36, Tryd.ntmps36
    go_wp2
    refine bodyPost_ret (v := .tuple #[.agg #[.string ⟨#[101, 110, 116, 101, 114]⟩, .int .u8 0], .int .i64 1]) (by simp [results, Tryd.results36, go_sem, *]) rfl ⟨by rw [HZ.out]; rfl, (Below.refl _ _).alloc (Nat.le_refl _) _⟩
  have e13 : ((x : Int) == 13) = false := beq_eq_false_iff_ne.2 (by omega)
  by_cases h9 : x = 9
  · subst h9
    have HZ := hid (hsome (k := ⟨[116, 97, 98], 0⟩) rfl)
    clear hsome hnone bx1 hne
    go_enter Tryd.func36, Tryd.ntmps36
    go_wp2
    refine bodyPost_ret (v := .tuple #[.agg #[.string ⟨#[116, 97, 98]⟩, .int .u8 0], .int .i64 1]) (by simp [results, Tryd.results36, go_sem, *]) rfl ⟨by rw [HZ.out]; rfl, (Below.refl _ _).alloc (Nat.le_refl _) _⟩
  have e9 : ((x : Int) == 9) = false := beq_eq_false_iff_ne.2 (by omega)
  by_cases h127 : x = 127
  · subst h127
    have HZ := hid (hsome (k := ⟨[98, 97, 99, 107, 115, 112, 97, 99, 101], 0⟩) rfl)
    clear hsome hnone bx1 hne
    go_enter Tryd.func36, Tryd.ntmps36
    go_wp2
    refine bodyPost_ret (v := .tuple #[.agg #[.string ⟨#[98, 97, 99, 107, 115, 112, 97, 99, 101]⟩, .int .u8 0], .int .i64 1]) (by simp [results, Tryd.results36, go_sem, *]) rfl ⟨by rw [HZ.out]; rfl, (Below.refl _ _).alloc (Nat.le_refl _) _⟩
  have e127 : ((x : Int) == 127) = false := beq_eq_false_iff_ne.2 (by omega)
  by_cases h32 : x = 32
  · subst h32
    have HZ := hid (hsome (k := ⟨[115, 112, 97, 99, 101], 0⟩) rfl)
    clear hsome hnone bx1 hne
    go_enter Tryd.func36, Tryd.ntmps36
    go_wp2
    refine bodyPost_ret (v := .tuple #[.agg #[.string ⟨#[115, 112, 97, 99, 101]⟩, .int .u8 0], .int .i64 1]) (by simp [results, Tryd.results36, go_sem, *]) rfl ⟨by rw [HZ.out]; rfl, (Below.refl _ _).alloc (Nat.le_refl _) _⟩
  have e32 : ((x : Int) == 32) = false := beq_eq_false_iff_ne.2 (by omega)
  by_cases h0' : x = 0
  · subst h0'
    have HZ := hid (hsome (k := ⟨[115, 112, 97, 99, 101], 2⟩) rfl)
    clear hsome hnone bx1 hne
    go_enter Tryd.func36, Tryd.ntmps36
    go_wp2
    refine bodyPost_ret (v := .tuple #[.agg #[.string ⟨#[115, 112, 97, 99, 101]⟩, .int .u8 2], .int .i64 1]) (by simp [results, Tryd.results36, go_sem, *]) rfl ⟨by rw [HZ.out]; rfl, (Below.refl _ _).alloc (Nat.le_refl _) _⟩
  have e0 : ((x : Int) == 0) = false := beq_eq_false_iff_ne.2 (by omega)
  by_cases hc : x ≤ 26
  · obtain ⟨d, hd⟩ : ∃ d, 96 + x = d := ⟨_, rfl⟩
    have hz := hsome (single_low h0' h9 h13 hc)
    rw [hd] at hz
    have q1 : decide ((x : Int) ≤ 26) = true := decide_eq_true (by omega)
    have q2 : (x : Int) ≤ 26 := by omega
    have hdi : 97 + (x : Int) - 1 = (d : Int) := by omega
    have hcv := conv_one ((w.alloc (.cells #[.string { data := #[] }, .int .u8 0] 31)).alloc (.cells #[.int .u8 (d : Int)] 5)) (w.heap.size + 1) d (by
      have := World.alloc_heap_new (w.alloc (.cells #[.string { data := #[] }, .int .u8 0] 31)) (.cells #[.int .u8 (d : Int)] 5)
      simpa using this) (by omega)
    obtain ⟨E, hE⟩ : ∃ E, (⟨#[d.toUInt8]⟩ : ByteArray) = E := ⟨_, rfl⟩
    rw [hE] at hcv
    have HE := hid hE
    have HZ := hid hz
    clear hsome hnone bx1 hne hc hd hE hz
    go_enter Tryd.func36, Tryd.ntmps36
    go_wp2
    refine bodyPost_ret (v := .tuple #[.agg #[.string E, .int .u8 2], .int .i64 1]) (by simp [results, Tryd.results36, go_sem, *]) rfl ⟨by rw [HZ.out, ← HE.out]; rfl, ((Below.refl _ _).alloc (Nat.le_refl _) _).alloc (by simp) _⟩
  have q1 : decide ((x : Int) ≤ 26) = false := decide_eq_false (by omega)
  have q2 : ¬ (x : Int) ≤ 26 := by omega
  have hgt : 27 ≤ x := by omega
  clear hc
  by_cases hc : 28 ≤ x ∧ x ≤ 31
  · obtain ⟨d, hd⟩ : ∃ d, 64 + x = d := ⟨_, rfl⟩
    have hz := hsome (single_mid hc.1 hc.2)
    rw [hd] at hz
    have r1 : decide ((28 : Int) ≤ (x : Int)) = true := decide_eq_true (by omega)
    have r2 : decide ((x : Int) ≤ 31) = true := decide_eq_true (by omega)
    have r3 : (28 : Int) ≤ (x : Int) := by omega
    have r4 : (x : Int) ≤ 31 := by omega
    have hdi : 92 + (x : Int) - 28 = (d : Int) := by omega
    have hcv := conv_one ((w.alloc (.cells #[.string { data := #[] }, .int .u8 0] 31)).alloc (.cells #[.int .u8 (d : Int)] 5)) (w.heap.size + 1) d (by
      have := World.alloc_heap_new (w.alloc (.cells #[.string { data := #[] }, .int .u8 0] 31)) (.cells #[.int .u8 (d : Int)] 5)
      simpa using this) (by omega)
    obtain ⟨E, hE⟩ : ∃ E, (⟨#[d.toUInt8]⟩ : ByteArray) = E := ⟨_, rfl⟩
    rw [hE] at hcv
    have HE := hid hE
    have HZ := hid hz
    clear hsome hnone bx1 hne hc hd hE hz
    go_enter Tryd.func36, Tryd.ntmps36
    go_wp2
    refine bodyPost_ret (v := .tuple #[.agg #[.string E, .int .u8 2], .int .i64 1]) (by simp [results, Tryd.results36, go_sem, *]) rfl ⟨by rw [HZ.out, ← HE.out]; rfl, ((Below.refl _ _).alloc (Nat.le_refl _) _).alloc (by simp) _⟩
  have hcond : (decide ((28 : Int) ≤ (x : Int)) = false) ∨ (decide ((28 : Int) ≤ (x : Int)) = true ∧ decide ((x : Int) ≤ 31) = false) := by
    by_cases h : 28 ≤ x
    · exact .inr ⟨decide_eq_true (by omega), decide_eq_false (by omega)⟩
    · exact .inl (decide_eq_false (by omega))
  by_cases h43 : x = 43
  · subst h43
    have HZ := hid (hsome (k := ⟨[112, 108, 117, 115], 0⟩) rfl)
    clear hsome hnone bx1 hne hcond hc
    go_enter Tryd.func36, Tryd.ntmps36
    go_wp2
    refine bodyPost_ret (v := .tuple #[.agg #[.string ⟨#[112, 108, 117, 115]⟩, .int .u8 0], .int .i64 1]) (by simp [results, Tryd.results36, go_sem, *]) rfl ⟨by rw [HZ.out]; rfl, (Below.refl _ _).alloc (Nat.le_refl _) _⟩
  have e43 : ((x : Int) == 43) = false := beq_eq_false_iff_ne.2 (by omega)
  have hz := hnone (single_off hgt (by omega) h127 h32 h43)
  have CD := dec_any s _ (tabs_on hT hB1)
  unfold rnG wdG at CD
  simp only [if_neg hne] at CD
  have hlen := ba_len s
  have hfull := @full_long s.data.toList
  have hbeg := @begins_rune s.data.toList
  rw [ba_len] at hfull hbeg
  have CB := fun w1 (hb : Below w.heap.size w w1) (h3 : s.size ≤ 3) b hb' => beginning_any s w1 (tabs_on hT hb) (by omega) h3 b hb'
  have HCB := hid CB
  have CX := fun w1 => rWidth_any (rn s.data.toList : Int) w1
  have hwl := wd_le s.data.toList hne
  rw [ba_len] at hwl
  have hrl := rn_le s.data.toList
  have hw1 := wd_pos s.data.toList
  have hrb := rn_brk (l := s.data.toList)
  have hkb := brk_wd (l := s.data.toList)
  have hkr := brk_rn (l := s.data.toList)
  have htk := ba_take s (wd s.data.toList)
  clear hsome hnone hc hT CB hlen
  by_cases hk : Brk s.data.toList
  · have hr := hkr hk
    have hn := hkb hk
    rw [hr, hn] at CD
    rw [if_pos hk] at hz
    have HBEG := hid hbeg
    clear hrb hkb hkr hk hr hn CX hwl hrl hw1 htk hne hbeg
    by_cases h4 : s.size < 4
    · have s1 : decide ((s.size : Int) < 4) = true := decide_eq_true (by omega)
      have s2 : (s.size : Int) < 4 := by omega
      have s3 : decide (s.size < 4) = true := decide_eq_true h4
      have CB2 := fun w1 hb => HCB.out w1 hb (by omega) (!fullB s.data.toList) (by
        rw [Bool.not_eq_true', HBEG.out (by omega) (by omega)])
      clear hfull HBEG HCB
      generalize fullB s.data.toList = fb at *
      cases fb with
      | true =>
        rw [if_pos rfl] at hz
        have HZ := hid hz
        simp only [Bool.not_true] at CB2
        clear hz
        rcases hcond with q | ⟨q, q'⟩
        all_goals
          go_enter Tryd.func36, Tryd.ntmps36
          go_wp2_with fail
          with_reducible refine CD.mono ?_
          rintro e w2 ⟨rfl, hb2⟩
          have hs2 := hb2.size
          simp only [World.size_alloc] at hs2
          have bx2 := bx1.below hb2 (by simp)
          have hB2 := hB1.trans (hb2.mono hB1.size)
          have C := CB2 w2 hB2
          go_wp2_with fail
          with_reducible refine C.mono ?_
          rintro e w3 ⟨rfl, hb3⟩
          have hs3 := hb3.size
          obtain ⟨c0, c1, c2, c3⟩ := bx2.below hb3 (by omega)
          have l3 : w.heap.size < w3.heap.size := by omega
          have hB3 := hB2.trans (hb3.mono hB2.size)
          clear C CB2 CD bx2 bx1 hb3 hb2 hB2
          go_wp2
          refine bodyPost_ret (v := .tuple #[.agg #[.string { data := #[] }, .int .u8 0], .int .i64 1]) (by simp [results, Tryd.results36, go_sem, *]) rfl ⟨by rw [HZ.out]; rfl, by (repeat first | with_reducible exact hB3 | refine Below.setCell ?_ (by first | exact Nat.le_refl _ | (simp; omega)) _ | refine Below.alloc ?_ (by simp; omega) _)⟩
      | false =>
        rw [if_neg (by decide)] at hz
        have HZ := hid hz
        simp only [Bool.not_false] at CB2
        clear hz
        rcases hcond with q | ⟨q, q'⟩
        all_goals
          go_enter Tryd.func36, Tryd.ntmps36
          go_wp2_with fail
          with_reducible refine CD.mono ?_
          rintro e w2 ⟨rfl, hb2⟩
          have hs2 := hb2.size
          simp only [World.size_alloc] at hs2
          have bx2 := bx1.below hb2 (by simp)
          have hB2 := hB1.trans (hb2.mono hB1.size)
          have C := CB2 w2 hB2
          go_wp2_with fail
          with_reducible refine C.mono ?_
          rintro e w3 ⟨rfl, hb3⟩
          have hs3 := hb3.size
          obtain ⟨c0, c1, c2, c3⟩ := bx2.below hb3 (by omega)
          have l3 : w.heap.size < w3.heap.size := by omega
          have hB3 := hB2.trans (hb3.mono hB2.size)
          clear C CB2 CD bx2 bx1 hb3 hb2 hB2
          go_wp2
          refine bodyPost_ret (v := .tuple #[.agg #[.string { data := #[] }, .int .u8 0], .int .i64 0]) (by simp [results, Tryd.results36, go_sem, *]) rfl ⟨by rw [HZ.out]; rfl, by (repeat first | with_reducible exact hB3 | refine Below.setCell ?_ (by first | exact Nat.le_refl _ | (simp; omega)) _ | refine Below.alloc ?_ (by simp; omega) _)⟩
    · have s1 : decide ((s.size : Int) < 4) = false := decide_eq_false (by omega)
      have s2 : ¬ (s.size : Int) < 4 := by omega
      have s3 : decide (s.size < 4) = false := decide_eq_false h4
      rw [if_pos (hfull (by omega))] at hz
      have HZ := hid hz
      clear hz hfull HBEG HCB
      rcases hcond with q | ⟨q, q'⟩
      all_goals
        go_enter Tryd.func36, Tryd.ntmps36
        go_wp2_with fail
        with_reducible refine CD.mono ?_
        rintro e w2 ⟨rfl, hb2⟩
        have hs2 := hb2.size
        simp only [World.size_alloc] at hs2
        obtain ⟨c0, c1, c2, c3⟩ := bx1.below hb2 (by simp)
        have l3 : w.heap.size < w2.heap.size := by omega
        have hB2 := hB1.trans (hb2.mono hB1.size)
        clear CD bx1 hb2
        go_wp2
        refine bodyPost_ret (v := .tuple #[.agg #[.string { data := #[] }, .int .u8 0], .int .i64 1]) (by simp [results, Tryd.results36, go_sem, *]) rfl ⟨by rw [HZ.out]; rfl, by (repeat first | with_reducible exact hB2 | refine Below.setCell ?_ (by first | exact Nat.le_refl _ | (simp; omega)) _ | refine Below.alloc ?_ (by simp; omega) _)⟩
  · have hrd : (((rn s.data.toList : Int) == 65533) = true ∧ (((wd s.data.toList : Nat) : Int) == 1) = false) ∨ ((rn s.data.toList : Int) == 65533) = false := by
      by_cases h : rn s.data.toList = 65533
      · exact .inl ⟨beq_iff_eq.2 (by omega), beq_eq_false_iff_ne.2 (by have := hrb hk h; omega)⟩
      · exact .inr (beq_eq_false_iff_ne.2 (by omega))
    rw [if_neg hk] at hz
    clear hrb hkb hkr hk hrl hw1 hne hfull hbeg HCB
    generalize wid (rn s.data.toList : Int) = wi at *
    generalize rn s.data.toList = r at *
    generalize wd s.data.toList = n at *
    have hni : (n : Int) ≤ (s.size : Int) := by omega
    have HTK := hid htk
    clear htk
    by_cases hwi : wi = 0
    · rw [if_pos hwi] at hz
      have g1 : ((wi : Int) == 0) = true := beq_iff_eq.2 (by omega)
      have HZ := hid hz
      clear hz hwi
      rcases hcond with q | ⟨q, q'⟩
      all_goals
        rcases hrd with ⟨f1, f2⟩ | f1
      all_goals
        go_enter Tryd.func36, Tryd.ntmps36
        go_wp2_with fail
        with_reducible refine CD.mono ?_
        rintro e w2 ⟨rfl, hb2⟩
        have hs2 := hb2.size
        simp only [World.size_alloc] at hs2
        have bx2 := bx1.below hb2 (by simp)
        have hB2 := hB1.trans (hb2.mono hB1.size)
        have C := CX w2
        go_wp2_with fail
        with_reducible refine C.mono ?_
        rintro e w3 ⟨rfl, hb3⟩
        have hs3 := hb3.size
        obtain ⟨c0, c1, c2, c3⟩ := bx2.below hb3 (by omega)
        have l3 : w.heap.size < w3.heap.size := by omega
        have hB3 := hB2.trans (hb3.mono hB2.size)
        clear C CD CX bx2 bx1 hb3 hb2 hB2
        go_wp2
        refine bodyPost_ret (v := .tuple #[.agg #[.string { data := #[] }, .int .u8 0], .int .i64 (n : Int)]) (by simp [results, Tryd.results36, go_sem, *]) rfl ⟨by rw [HZ.out]; rfl, by (repeat first | with_reducible exact hB3 | refine Below.setCell ?_ (by first | exact Nat.le_refl _ | (simp; omega)) _ | refine Below.alloc ?_ (by simp; omega) _)⟩
    · rw [if_neg hwi] at hz
      have g1 : ((wi : Int) == 0) = false := beq_eq_false_iff_ne.2 (by omega)
      have HZ := hid hz
      clear hz hwi
      rcases hcond with q | ⟨q, q'⟩
      all_goals
        rcases hrd with ⟨f1, f2⟩ | f1
      all_goals
        go_enter Tryd.func36, Tryd.ntmps36
        go_wp2_with fail
        with_reducible refine CD.mono ?_
        rintro e w2 ⟨rfl, hb2⟩
        have hs2 := hb2.size
        simp only [World.size_alloc] at hs2
        have bx2 := bx1.below hb2 (by simp)
        have hB2 := hB1.trans (hb2.mono hB1.size)
        have C := CX w2
        go_wp2_with fail
        with_reducible refine C.mono ?_
        rintro e w3 ⟨rfl, hb3⟩
        have hs3 := hb3.size
        obtain ⟨c0, c1, c2, c3⟩ := bx2.below hb3 (by omega)
        have l3 : w.heap.size < w3.heap.size := by omega
        have hB3 := hB2.trans (hb3.mono hB2.size)
        clear C CD CX bx2 bx1 hb3 hb2 hB2
        go_wp2
        refine bodyPost_ret (v := .tuple #[.agg #[.string (s.extract 0 n), .int .u8 0], .int .i64 (n : Int)]) (by simp [results, Tryd.results36, go_sem, *]) rfl ⟨by rw [HZ.out, HTK.out]; rfl, by (repeat first | with_reducible exact hB3 | refine Below.setCell ?_ (by first | exact Nat.le_refl _ | (simp; omega)) _ | refine Below.alloc ?_ (by simp; omega) _)⟩
end Go.Proofs.YtddigbhijfpmkaaDoor
