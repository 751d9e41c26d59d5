/- Layer 21: mods, listed of the program. (Printed by gen_q.py.) -/
import Derived.Test.YtddigbhijfpmkaaDoorKeP
namespace Go.Proofs.YtddigbhijfpmkaaDoor
set_option linter.unusedVariables false
set_option linter.unusedSimpArgs false
set_option maxRecDepth 100000
open Go.RowKit Go.Shelf Go.Lib
set_option maxRecDepth 100000
set_option maxHeartbeats 4000000

def modsN (n : Nat) : Nat := (n &&& 1) ||| ((n &&& 2) <<< 1) ||| ((n &&& 4) >>> 1)
theorem mods_any (n : Nat) (hn : n < 8) (w : World) : Calls Tryd.prog 72 #[.int .u8 (n : Int)] w fun e w' => e = .returned (.int .u8 (modsN n : Int)) ∧ w = w' := by
  have h : n = 0 ∨ n = 1 ∨ n = 2 ∨ n = 3 ∨ n = 4 ∨ n = 5 ∨ n = 6 ∨ n = 7 := by omega
  rcases h with rfl | rfl | rfl | rfl | rfl | rfl | rfl | rfl
  all_goals
    go_enter Tryd.func72, Tryd.ntmps72
    go_wp2
    go_ret
    exact ⟨rfl, rfl⟩
theorem toList_is (l m : By) : ((⟨l.toArray⟩ : ByteArray).toList == (⟨m.toArray⟩ : ByteArray).toList) = decide (l = m) := by
  rw [← beq_toListBytes, ba_beq, decide_eq_decide]
  constructor
  · intro h
    have := congrArg (fun x : ByteArray => x.data.toList) h
    simpa using this
  · rintro rfl
    rfl
theorem toList_nil (l : By) : ((⟨l.toArray⟩ : ByteArray).toList == []) = decide (l = []) := by
  have e : (⟨([] : By).toArray⟩ : ByteArray).toList = [] := by kernel_rfl
  have := toList_is l []
  rw [e] at this
  exact this
theorem toList_one (l : By) : ((⟨l.toArray⟩ : ByteArray).toList == [49]) = decide (l = [49]) := by
  have e : (⟨([49] : By).toArray⟩ : ByteArray).toList = [49] := by kernel_rfl
  have := toList_is l [49]
  rw [e] at this
  exact this
theorem field_row (v : ByteArray) (w : World) : (Instr.field 67 (.agg #[.string v]) 0).run Tryd.prog w = .ok (.string v) w := by rfl
attribute [go_sem 2000] field_row
theorem cutS_nil : ∀ l : By, ((cutS l).1 = [] ∧ (cutS l).2.2 = false) ↔ l = []
  | [] => ⟨fun _ => rfl, fun _ => ⟨rfl, rfl⟩⟩
  | b :: t => by
    rw [cutS_cons]
    split
    · simp
    · simp
theorem listed_A {l p q : By} (b : Nat) (h : cutS l = (p, q, false)) : listedL l b = if endL p false b = [] then noKy else ⟨endL p false b, 0⟩ := by
  unfold listedL
  rw [h]
  rfl
theorem listed_B {l p q : By} (b : Nat) (h : cutS l = (p, q, true)) (hm : modsL q = none) : listedL l b = noKy := by
  unfold listedL
  rw [h]
  simp [hm]
theorem listed_C {l p q : By} {k : Nat} (b : Nat) (h : cutS l = (p, q, true)) (hm : modsL q = some k) : listedL l b = if endL p true b = [] then noKy else ⟨endL p true b, k⟩ := by
  unfold listedL
  rw [h]
  simp [hm]
theorem modsL_one (x : UInt8) : modsL [x] = if 50 ≤ x.toNat ∧ x.toNat ≤ 56 then some (modsN (x.toNat - 49)) else none := rfl
theorem modsL_no : ∀ q : By, q.length ≠ 1 → modsL q = none
  | [], _ => rfl
  | [_], h => absurd rfl h
  | _ :: _ :: _, _ => rfl
theorem one_list (q : ByteArray) (h : q.size = 1) : q.data.toList = [q[0]'(by omega)] := by
  have hl : q.data.toList.length = 1 := by rw [ba_len]; exact h
  obtain ⟨x, hx⟩ := List.length_eq_one_iff.1 hl
  rw [hx]
  have : q.data.toList[0]'(by omega) = q[0]'(by omega) := rfl
  rw [← this]
  simp [hx]
theorem end_num (p : By) (two : Bool) : endL p two 126 = numL p := by unfold endL; rw [if_pos rfl]
theorem end_arr {p : By} {two : Bool} {b : Nat} (hb : b ≠ 126) (h : p = [49] ∨ (p = [] ∧ two = false)) : endL p two b = arrL b := by unfold endL; rw [if_neg hb, if_pos h]
theorem end_no {p : By} {two : Bool} {b : Nat} (hb : b ≠ 126) (h : ¬ (p = [49] ∨ (p = [] ∧ two = false))) : endL p two b = [] := by unfold endL; rw [if_neg hb, if_neg h]
theorem listed_any (s : ByteArray) (b : Nat) (w : World) (hT : Tabs w) (hs : s.size ≤ 4000000) :
    Calls Tryd.prog 49 #[.string s, .int .u8 (b : Int)] w fun e w' => e = .returned (kyV (listedL s.data.toList b)) ∧ Below w.heap.size w w' := by
  obtain ⟨Z, hZ⟩ : ∃ x, listedL s.data.toList b = x := ⟨_, rfl⟩
  rw [hZ]
  have bx0 : Box2 (w.alloc (.cells #[.string { data := #[] }, .int .u8 0] 31)) w.heap.size { data := #[] } 0 := box_new w _ 0
  have hB1 := (Below.refl w.heap.size w).alloc (Nat.le_refl _) (.cells #[.string { data := #[] }, .int .u8 0] 31)
  have CC := cut_any s _ (tabs_on hT hB1) hs
  have hnil := cutS_nil s.data.toList
  have hse := toList_nil s.data.toList
  rw [ba_mk] at hse
  clear hT
  obtain ⟨⟨p, q, two⟩, hcut⟩ : ∃ x, cutS s.data.toList = x := ⟨_, rfl⟩
  rw [hcut] at CC hnil
  simp only at CC hnil
  have hse2 : (s.toList == []) = decide (p = [] ∧ two = false) := by rw [hse, decide_eq_decide]; exact hnil.symm
  have hone := toList_one p
  obtain ⟨pb, hpb⟩ : ∃ x, (⟨p.toArray⟩ : ByteArray) = x := ⟨_, rfl⟩
  have hpd : pb.data.toList = p := by rw [← hpb]
  obtain ⟨qb, hqb⟩ : ∃ x, (⟨q.toArray⟩ : ByteArray) = x := ⟨_, rfl⟩
  have hqd : qb.data.toList = q := by rw [← hqb]
  rw [hpb] at CC hone
  rw [hqb] at CC
  have HPD := hid hpd
  have HSE := hid hse2
  clear hnil hse hpb hpd hqb hse2
  cases two with
  | false =>
    rw [listed_A b hcut] at hZ
    clear hcut
    go_enter Tryd.func49, Tryd.ntmps49
    go_wp2_with fail
    with_reducible refine CC.mono ?_
    rintro e w1 ⟨rfl, hb1⟩
    have bx1 := bx0.below hb1 (by simp)
    have hs1 := hb1.size
    simp only [World.size_alloc] at hs1
    have l1 : w.heap.size < w1.heap.size := by omega
    have l2 : w.heap.size < w1.heap.size + 1 := by omega
    have hB2 := hB1.trans (hb1.mono hB1.size)
    clear CC bx0 hB1 hb1
    by_cases hb : b = 126
    · subst hb
      rw [end_num] at hZ
      have HZ := hid hZ.symm
      clear hZ
      have by1 : Box2 (w1.alloc (.cells #[.string { data := #[] }, .int .u8 0] 31)) w1.heap.size { data := #[] } 0 := box_new w1 _ 0
      have bx2 := bx1.below ((Below.refl w1.heap.size w1).alloc (Nat.le_refl _) (.cells #[.string { data := #[] }, .int .u8 0] 31)) l1
      have hB3 := hB2.alloc (by omega) (.cells #[.string { data := #[] }, .int .u8 0] 31)
      have NB := numbered_any (w1.alloc (.cells #[.string { data := #[] }, .int .u8 0] 31))
      clear bx1 hB2
      go_wp2_with fail
      with_reducible refine NB.mono ?_
      rintro e w5 ⟨rfl, hm, hb5⟩
      have NL := num_look _ w5 hm pb
      rw [HPD.out] at NL
      have he := toList_nil (numL p)
      obtain ⟨nm, hnm⟩ : ∃ x, numL p = x := ⟨_, rfl⟩
      rw [hnm] at NL he
      obtain ⟨c0, c1, c2, c3⟩ := bx2.below hb5 (by simpa using l2)
      obtain ⟨d0, d1, d2, d3⟩ := by1.below hb5 (by simp)
      have hs5 := hb5.size
      simp only [World.size_alloc] at hs5 NL
      have l5 : w.heap.size < w5.heap.size := by omega
      have l6 : w1.heap.size < w5.heap.size := by omega
      have hB5 := hB3.trans (hb5.mono hB3.size)
      have HNM := hid hnm
      obtain ⟨nb, hnb⟩ : ∃ x, (⟨nm.toArray⟩ : ByteArray) = x := ⟨_, rfl⟩
      rw [hnb] at NL he
      have HNB := hid hnb
      clear hm NB bx2 by1 hb5 hB3 hnm hnb
      by_cases hn : nm = []
      · rw [decide_eq_true hn] at he
        have HN := hid hn
        clear hn
        go_wp2
        refine bodyPost_ret (v := .agg #[.string { data := #[] }, .int .u8 0]) (by simp [results, Tryd.results49, go_sem, *]) rfl ⟨by rw [HZ.out, HNM.out, if_pos HN.out]; rfl, by (repeat first | with_reducible exact hB5 | refine Below.setCell ?_ (by first | exact Nat.le_refl _ | (simp; omega)) _ | refine Below.alloc ?_ (by simp; omega) _)⟩
      · rw [decide_eq_false hn] at he
        have HN := hid hn
        clear hn
        go_wp2
        refine bodyPost_ret (v := .agg #[.string nb, .int .u8 0]) (by simp [results, Tryd.results49, go_sem, *]) rfl ⟨by rw [HZ.out, HNM.out, if_neg HN.out, ← HNB.out]; rfl, by (repeat first | with_reducible exact hB5 | refine Below.setCell ?_ (by first | exact Nat.le_refl _ | (simp; omega)) _ | refine Below.alloc ?_ (by simp; omega) _)⟩
    · have hbf : ((b : Int) == 126) = false := beq_eq_false_iff_ne.2 (by omega)
      by_cases hp : p = [49] ∨ (p = [] ∧ false = false)
      · rw [end_arr hb hp] at hZ
        have HZ := hid hZ.symm
        clear hZ hb
        have hcase : (decide (p = [49]) = true) ∨ (decide (p = [49]) = false ∧ decide (p = [] ∧ false = false) = true) := by
          by_cases h : p = [49]
          · exact .inl (decide_eq_true h)
          · exact .inr ⟨decide_eq_false h, decide_eq_true (hp.resolve_left h)⟩
        clear hp
        rcases hcase with h | ⟨h, h2⟩
        · skip
          rw [h] at hone
          clear h
          have by1 : Box2 (w1.alloc (.cells #[.string { data := #[] }, .int .u8 0] 31)) w1.heap.size { data := #[] } 0 := box_new w1 _ 0
          have bx2 := bx1.below ((Below.refl w1.heap.size w1).alloc (Nat.le_refl _) (.cells #[.string { data := #[] }, .int .u8 0] 31)) l1
          have hB3 := hB2.alloc (by omega) (.cells #[.string { data := #[] }, .int .u8 0] 31)
          have NB := arrows_any (w1.alloc (.cells #[.string { data := #[] }, .int .u8 0] 31))
          clear bx1 hB2
          go_wp2_with fail
          with_reducible refine NB.mono ?_
          rintro e w5 ⟨rfl, hm, hb5⟩
          have NL := arr_look _ w5 hm b false
          rw [if_neg (by decide)] at NL
          have he := toList_nil (arrL b)
          obtain ⟨nm, hnm⟩ : ∃ x, arrL b = x := ⟨_, rfl⟩
          rw [hnm] at NL he
          obtain ⟨c0, c1, c2, c3⟩ := bx2.below hb5 (by simpa using l2)
          obtain ⟨d0, d1, d2, d3⟩ := by1.below hb5 (by simp)
          have hs5 := hb5.size
          simp only [World.size_alloc] at hs5 NL
          have l5 : w.heap.size < w5.heap.size := by omega
          have l6 : w1.heap.size < w5.heap.size := by omega
          have hB5 := hB3.trans (hb5.mono hB3.size)
          have HNM := hid hnm
          obtain ⟨nb, hnb⟩ : ∃ x, (⟨nm.toArray⟩ : ByteArray) = x := ⟨_, rfl⟩
          rw [hnb] at NL he
          have HNB := hid hnb
          clear hm NB bx2 by1 hb5 hB3 hnm hnb
          by_cases hn : nm = []
          · rw [decide_eq_true hn] at he
            have HN := hid hn
            clear hn
            go_wp2
            refine bodyPost_ret (v := .agg #[.string { data := #[] }, .int .u8 0]) (by simp [results, Tryd.results49, go_sem, *]) rfl ⟨by rw [HZ.out, HNM.out, if_pos HN.out]; rfl, by (repeat first | with_reducible exact hB5 | refine Below.setCell ?_ (by first | exact Nat.le_refl _ | (simp; omega)) _ | refine Below.alloc ?_ (by simp; omega) _)⟩
          · rw [decide_eq_false hn] at he
            have HN := hid hn
            clear hn
            go_wp2
            refine bodyPost_ret (v := .agg #[.string nb, .int .u8 0]) (by simp [results, Tryd.results49, go_sem, *]) rfl ⟨by rw [HZ.out, HNM.out, if_neg HN.out, ← HNB.out]; rfl, by (repeat first | with_reducible exact hB5 | refine Below.setCell ?_ (by first | exact Nat.le_refl _ | (simp; omega)) _ | refine Below.alloc ?_ (by simp; omega) _)⟩
        · skip
          rw [h] at hone
          have hse2 : (s.toList == []) = true := HSE.out.trans (by first | exact h2 | simpa using h2)
          clear h h2
          have by1 : Box2 (w1.alloc (.cells #[.string { data := #[] }, .int .u8 0] 31)) w1.heap.size { data := #[] } 0 := box_new w1 _ 0
          have bx2 := bx1.below ((Below.refl w1.heap.size w1).alloc (Nat.le_refl _) (.cells #[.string { data := #[] }, .int .u8 0] 31)) l1
          have hB3 := hB2.alloc (by omega) (.cells #[.string { data := #[] }, .int .u8 0] 31)
          have NB := arrows_any (w1.alloc (.cells #[.string { data := #[] }, .int .u8 0] 31))
          clear bx1 hB2
          go_wp2_with fail
          with_reducible refine NB.mono ?_
          rintro e w5 ⟨rfl, hm, hb5⟩
          have NL := arr_look _ w5 hm b false
          rw [if_neg (by decide)] at NL
          have he := toList_nil (arrL b)
          obtain ⟨nm, hnm⟩ : ∃ x, arrL b = x := ⟨_, rfl⟩
          rw [hnm] at NL he
          obtain ⟨c0, c1, c2, c3⟩ := bx2.below hb5 (by simpa using l2)
          obtain ⟨d0, d1, d2, d3⟩ := by1.below hb5 (by simp)
          have hs5 := hb5.size
          simp only [World.size_alloc] at hs5 NL
          have l5 : w.heap.size < w5.heap.size := by omega
          have l6 : w1.heap.size < w5.heap.size := by omega
          have hB5 := hB3.trans (hb5.mono hB3.size)
          have HNM := hid hnm
          obtain ⟨nb, hnb⟩ : ∃ x, (⟨nm.toArray⟩ : ByteArray) = x := ⟨_, rfl⟩
          rw [hnb] at NL he
          have HNB := hid hnb
          clear hm NB bx2 by1 hb5 hB3 hnm hnb
          by_cases hn : nm = []
          · rw [decide_eq_true hn] at he
            have HN := hid hn
            clear hn
            go_wp2
            refine bodyPost_ret (v := .agg #[.string { data := #[] }, .int .u8 0]) (by simp [results, Tryd.results49, go_sem, *]) rfl ⟨by rw [HZ.out, HNM.out, if_pos HN.out]; rfl, by (repeat first | with_reducible exact hB5 | refine Below.setCell ?_ (by first | exact Nat.le_refl _ | (simp; omega)) _ | refine Below.alloc ?_ (by simp; omega) _)⟩
          · rw [decide_eq_false hn] at he
            have HN := hid hn
            clear hn
            go_wp2
            refine bodyPost_ret (v := .agg #[.string nb, .int .u8 0]) (by simp [results, Tryd.results49, go_sem, *]) rfl ⟨by rw [HZ.out, HNM.out, if_neg HN.out, ← HNB.out]; rfl, by (repeat first | with_reducible exact hB5 | refine Below.setCell ?_ (by first | exact Nat.le_refl _ | (simp; omega)) _ | refine Below.alloc ?_ (by simp; omega) _)⟩
      · rw [end_no hb hp, if_pos rfl] at hZ
        have HZ := hid hZ.symm
        clear hZ hb
        rw [decide_eq_false (fun h => hp (.inl h))] at hone
        have hno := fun h => hp (.inr h)
        have hse2 : (s.toList == []) = false := HSE.out.trans (by first | exact decide_eq_false hno | simpa using hno)
        clear hno
        clear hp
        obtain ⟨c0, c1, c2, c3⟩ := bx1
        have he : (({ data := #[] } : ByteArray).toList == []) = true := toList_nil []
        go_wp2
        refine bodyPost_ret (v := .agg #[.string { data := #[] }, .int .u8 0]) (by simp [results, Tryd.results49, go_sem, *]) rfl ⟨by rw [HZ.out]; rfl, by (repeat first | with_reducible exact hB2 | refine Below.setCell ?_ (by first | exact Nat.le_refl _ | (simp; omega)) _ | refine Below.alloc ?_ (by simp; omega) _)⟩
  | true =>
    rw [← hqd] at hcut
    clear hqd
    by_cases h1 : qb.size = 1
    · have hq := one_list qb h1
      have h1i : ((qb.size : Int) == 1) = true := beq_iff_eq.2 (by omega)
      have h1l : 0 < qb.size := by omega
      rw [hq] at hcut
      have hmx := modsL_one (qb[0]'(by omega))
      clear hq
      by_cases hx : 50 ≤ (qb[0]'(by omega)).toNat ∧ (qb[0]'(by omega)).toNat ≤ 56
      · rw [if_pos hx] at hmx
        obtain ⟨hx1, hx2⟩ := hx
        rw [listed_C b hcut hmx] at hZ
        have M := fun w1 => mods_any (qb[0].toNat - 49) (by omega) w1
        generalize modsN (qb[0].toNat - 49) = md at *
        have e1 : ((qb[0].toNat - 49 : Nat) : Int) = (qb[0].toNat : Int) - 49 := by omega
        rw [e1] at M
        have x1 : ¬ ((qb[0].toNat : Int) < 50) := by omega
        have x2 : ¬ ((56 : Int) < (qb[0].toNat : Int)) := by omega
        have x3 : decide ((qb[0].toNat : Int) < 50) = false := decide_eq_false x1
        have x4 : decide ((56 : Int) < (qb[0].toNat : Int)) = false := decide_eq_false x2
        clear hcut hmx e1
        go_enter Tryd.func49, Tryd.ntmps49
        go_wp2_with fail
        with_reducible refine CC.mono ?_
        rintro e w1 ⟨rfl, hb1⟩
        have bx1 := bx0.below hb1 (by simp)
        have hs1 := hb1.size
        simp only [World.size_alloc] at hs1
        have l1 : w.heap.size < w1.heap.size := by omega
        have l2 : w.heap.size < w1.heap.size + 1 := by omega
        have hB2 := hB1.trans (hb1.mono hB1.size)
        clear CC bx0 hB1 hb1
        have M1 := M (w1.alloc (.cells #[.string { data := #[] }, .int .u8 0] 31))
        clear M
        by_cases hb : b = 126
        · subst hb
          rw [end_num] at hZ
          have HZ := hid hZ.symm
          clear hZ
          have by1 : Box2 (w1.alloc (.cells #[.string { data := #[] }, .int .u8 (md : Int)] 31)) w1.heap.size { data := #[] } md := box_new w1 _ md
          have bx2 := bx1.below ((Below.refl w1.heap.size w1).alloc (Nat.le_refl _) (.cells #[.string { data := #[] }, .int .u8 (md : Int)] 31)) l1
          have hB3 := hB2.alloc (by omega) (.cells #[.string { data := #[] }, .int .u8 (md : Int)] 31)
          have NB := numbered_any (w1.alloc (.cells #[.string { data := #[] }, .int .u8 (md : Int)] 31))
          clear bx1 hB2
          go_wp2_with fail
          with_reducible refine M1.mono ?_
          rintro e _ ⟨rfl, rfl⟩
          go_wp2_with fail
          with_reducible refine NB.mono ?_
          rintro e w5 ⟨rfl, hm, hb5⟩
          have NL := num_look _ w5 hm pb
          rw [HPD.out] at NL
          have he := toList_nil (numL p)
          obtain ⟨nm, hnm⟩ : ∃ x, numL p = x := ⟨_, rfl⟩
          rw [hnm] at NL he
          obtain ⟨c0, c1, c2, c3⟩ := bx2.below hb5 (by simpa using l2)
          obtain ⟨d0, d1, d2, d3⟩ := by1.below hb5 (by simp)
          have hs5 := hb5.size
          simp only [World.size_alloc] at hs5 NL
          have l5 : w.heap.size < w5.heap.size := by omega
          have l6 : w1.heap.size < w5.heap.size := by omega
          have hB5 := hB3.trans (hb5.mono hB3.size)
          have HNM := hid hnm
          obtain ⟨nb, hnb⟩ : ∃ x, (⟨nm.toArray⟩ : ByteArray) = x := ⟨_, rfl⟩
          rw [hnb] at NL he
          have HNB := hid hnb
          clear hm NB bx2 by1 hb5 hB3 hnm hnb
          by_cases hn : nm = []
          · rw [decide_eq_true hn] at he
            have HN := hid hn
            clear hn
            go_wp2
            refine bodyPost_ret (v := .agg #[.string { data := #[] }, .int .u8 0]) (by simp [results, Tryd.results49, go_sem, *]) rfl ⟨by rw [HZ.out, HNM.out, if_pos HN.out]; rfl, by (repeat first | with_reducible exact hB5 | refine Below.setCell ?_ (by first | exact Nat.le_refl _ | (simp; omega)) _ | refine Below.alloc ?_ (by simp; omega) _)⟩
          · rw [decide_eq_false hn] at he
            have HN := hid hn
            clear hn
            go_wp2
            refine bodyPost_ret (v := .agg #[.string nb, .int .u8 (md : Int)]) (by simp [results, Tryd.results49, go_sem, *]) rfl ⟨by rw [HZ.out, HNM.out, if_neg HN.out, ← HNB.out]; rfl, by (repeat first | with_reducible exact hB5 | refine Below.setCell ?_ (by first | exact Nat.le_refl _ | (simp; omega)) _ | refine Below.alloc ?_ (by simp; omega) _)⟩
        · have hbf : ((b : Int) == 126) = false := beq_eq_false_iff_ne.2 (by omega)
          by_cases hp : p = [49] ∨ (p = [] ∧ true = false)
          · rw [end_arr hb hp] at hZ
            have HZ := hid hZ.symm
            clear hZ hb
            have hcase : (decide (p = [49]) = true) ∨ (decide (p = [49]) = false ∧ decide (p = [] ∧ true = false) = true) := by
              by_cases h : p = [49]
              · exact .inl (decide_eq_true h)
              · exact .inr ⟨decide_eq_false h, decide_eq_true (hp.resolve_left h)⟩
            clear hp
            rcases hcase with h | ⟨h, h2⟩
            · skip
              rw [h] at hone
              clear h
              have by1 : Box2 (w1.alloc (.cells #[.string { data := #[] }, .int .u8 (md : Int)] 31)) w1.heap.size { data := #[] } md := box_new w1 _ md
              have bx2 := bx1.below ((Below.refl w1.heap.size w1).alloc (Nat.le_refl _) (.cells #[.string { data := #[] }, .int .u8 (md : Int)] 31)) l1
              have hB3 := hB2.alloc (by omega) (.cells #[.string { data := #[] }, .int .u8 (md : Int)] 31)
              have NB := arrows_any (w1.alloc (.cells #[.string { data := #[] }, .int .u8 (md : Int)] 31))
              clear bx1 hB2
              go_wp2_with fail
              with_reducible refine M1.mono ?_
              rintro e _ ⟨rfl, rfl⟩
              go_wp2_with fail
              with_reducible refine NB.mono ?_
              rintro e w5 ⟨rfl, hm, hb5⟩
              have NL := arr_look _ w5 hm b false
              rw [if_neg (by decide)] at NL
              have he := toList_nil (arrL b)
              obtain ⟨nm, hnm⟩ : ∃ x, arrL b = x := ⟨_, rfl⟩
              rw [hnm] at NL he
              obtain ⟨c0, c1, c2, c3⟩ := bx2.below hb5 (by simpa using l2)
              obtain ⟨d0, d1, d2, d3⟩ := by1.below hb5 (by simp)
              have hs5 := hb5.size
              simp only [World.size_alloc] at hs5 NL
              have l5 : w.heap.size < w5.heap.size := by omega
              have l6 : w1.heap.size < w5.heap.size := by omega
              have hB5 := hB3.trans (hb5.mono hB3.size)
              have HNM := hid hnm
              obtain ⟨nb, hnb⟩ : ∃ x, (⟨nm.toArray⟩ : ByteArray) = x := ⟨_, rfl⟩
              rw [hnb] at NL he
              have HNB := hid hnb
              clear hm NB bx2 by1 hb5 hB3 hnm hnb
              by_cases hn : nm = []
              · rw [decide_eq_true hn] at he
                have HN := hid hn
                clear hn
                go_wp2
                refine bodyPost_ret (v := .agg #[.string { data := #[] }, .int .u8 0]) (by simp [results, Tryd.results49, go_sem, *]) rfl ⟨by rw [HZ.out, HNM.out, if_pos HN.out]; rfl, by (repeat first | with_reducible exact hB5 | refine Below.setCell ?_ (by first | exact Nat.le_refl _ | (simp; omega)) _ | refine Below.alloc ?_ (by simp; omega) _)⟩
              · rw [decide_eq_false hn] at he
                have HN := hid hn
                clear hn
                go_wp2
                refine bodyPost_ret (v := .agg #[.string nb, .int .u8 (md : Int)]) (by simp [results, Tryd.results49, go_sem, *]) rfl ⟨by rw [HZ.out, HNM.out, if_neg HN.out, ← HNB.out]; rfl, by (repeat first | with_reducible exact hB5 | refine Below.setCell ?_ (by first | exact Nat.le_refl _ | (simp; omega)) _ | refine Below.alloc ?_ (by simp; omega) _)⟩
            · skip
              rw [h] at hone
              have hse2 : (s.toList == []) = true := HSE.out.trans (by first | exact h2 | simpa using h2)
              clear h h2
              have by1 : Box2 (w1.alloc (.cells #[.string { data := #[] }, .int .u8 (md : Int)] 31)) w1.heap.size { data := #[] } md := box_new w1 _ md
              have bx2 := bx1.below ((Below.refl w1.heap.size w1).alloc (Nat.le_refl _) (.cells #[.string { data := #[] }, .int .u8 (md : Int)] 31)) l1
              have hB3 := hB2.alloc (by omega) (.cells #[.string { data := #[] }, .int .u8 (md : Int)] 31)
              have NB := arrows_any (w1.alloc (.cells #[.string { data := #[] }, .int .u8 (md : Int)] 31))
              clear bx1 hB2
              go_wp2_with fail
              with_reducible refine M1.mono ?_
              rintro e _ ⟨rfl, rfl⟩
              go_wp2_with fail
              with_reducible refine NB.mono ?_
              rintro e w5 ⟨rfl, hm, hb5⟩
              have NL := arr_look _ w5 hm b false
              rw [if_neg (by decide)] at NL
              have he := toList_nil (arrL b)
              obtain ⟨nm, hnm⟩ : ∃ x, arrL b = x := ⟨_, rfl⟩
              rw [hnm] at NL he
              obtain ⟨c0, c1, c2, c3⟩ := bx2.below hb5 (by simpa using l2)
              obtain ⟨d0, d1, d2, d3⟩ := by1.below hb5 (by simp)
              have hs5 := hb5.size
              simp only [World.size_alloc] at hs5 NL
              have l5 : w.heap.size < w5.heap.size := by omega
              have l6 : w1.heap.size < w5.heap.size := by omega
              have hB5 := hB3.trans (hb5.mono hB3.size)
              have HNM := hid hnm
              obtain ⟨nb, hnb⟩ : ∃ x, (⟨nm.toArray⟩ : ByteArray) = x := ⟨_, rfl⟩
              rw [hnb] at NL he
              have HNB := hid hnb
              clear hm NB bx2 by1 hb5 hB3 hnm hnb
              by_cases hn : nm = []
              · rw [decide_eq_true hn] at he
                have HN := hid hn
                clear hn
                go_wp2
                refine bodyPost_ret (v := .agg #[.string { data := #[] }, .int .u8 0]) (by simp [results, Tryd.results49, go_sem, *]) rfl ⟨by rw [HZ.out, HNM.out, if_pos HN.out]; rfl, by (repeat first | with_reducible exact hB5 | refine Below.setCell ?_ (by first | exact Nat.le_refl _ | (simp; omega)) _ | refine Below.alloc ?_ (by simp; omega) _)⟩
              · rw [decide_eq_false hn] at he
                have HN := hid hn
                clear hn
                go_wp2
                refine bodyPost_ret (v := .agg #[.string nb, .int .u8 (md : Int)]) (by simp [results, Tryd.results49, go_sem, *]) rfl ⟨by rw [HZ.out, HNM.out, if_neg HN.out, ← HNB.out]; rfl, by (repeat first | with_reducible exact hB5 | refine Below.setCell ?_ (by first | exact Nat.le_refl _ | (simp; omega)) _ | refine Below.alloc ?_ (by simp; omega) _)⟩
          · rw [end_no hb hp, if_pos rfl] at hZ
            have HZ := hid hZ.symm
            clear hZ hb
            rw [decide_eq_false (fun h => hp (.inl h))] at hone
            have hno := fun h => hp (.inr h)
            have hse2 : (s.toList == []) = false := HSE.out.trans (by first | exact decide_eq_false hno | simpa using hno)
            clear hno
            clear hp
            obtain ⟨c0, c1, c2, c3⟩ := bx1
            have he : (({ data := #[] } : ByteArray).toList == []) = true := toList_nil []
            go_wp2_with fail
            with_reducible refine M1.mono ?_
            rintro e _ ⟨rfl, rfl⟩
            go_wp2
            refine bodyPost_ret (v := .agg #[.string { data := #[] }, .int .u8 0]) (by simp [results, Tryd.results49, go_sem, *]) rfl ⟨by rw [HZ.out]; rfl, by (repeat first | with_reducible exact hB2 | refine Below.setCell ?_ (by first | exact Nat.le_refl _ | (simp; omega)) _ | refine Below.alloc ?_ (by simp; omega) _)⟩
      · rw [if_neg hx] at hmx
        rw [listed_B b hcut hmx] at hZ
        have HZ := hid hZ.symm
        clear hZ hcut hmx
        by_cases hy : (qb[0].toNat : Int) < 50
        · have x3 : decide ((qb[0].toNat : Int) < 50) = true := decide_eq_true hy
          go_enter Tryd.func49, Tryd.ntmps49
          go_wp2_with fail
          with_reducible refine CC.mono ?_
          rintro e w1 ⟨rfl, hb1⟩
          have bx1 := bx0.below hb1 (by simp)
          have hs1 := hb1.size
          simp only [World.size_alloc] at hs1
          have l1 : w.heap.size < w1.heap.size := by omega
          have l2 : w.heap.size < w1.heap.size + 1 := by omega
          have hB2 := hB1.trans (hb1.mono hB1.size)
          clear CC bx0 hB1 hb1
          obtain ⟨c0, c1, c2, c3⟩ := bx1
          go_wp2
          refine bodyPost_ret (v := .agg #[.string { data := #[] }, .int .u8 0]) (by simp [results, Tryd.results49, go_sem, *]) rfl ⟨by rw [HZ.out]; rfl, by (repeat first | with_reducible exact hB2 | refine Below.setCell ?_ (by first | exact Nat.le_refl _ | (simp; omega)) _ | refine Below.alloc ?_ (by simp; omega) _)⟩
        · have x3 : decide ((qb[0].toNat : Int) < 50) = false := decide_eq_false hy
          have hz : (56 : Int) < (qb[0].toNat : Int) := by omega
          have x4 : decide ((56 : Int) < (qb[0].toNat : Int)) = true := decide_eq_true hz
          go_enter Tryd.func49, Tryd.ntmps49
          go_wp2_with fail
          with_reducible refine CC.mono ?_
          rintro e w1 ⟨rfl, hb1⟩
          have bx1 := bx0.below hb1 (by simp)
          have hs1 := hb1.size
          simp only [World.size_alloc] at hs1
          have l1 : w.heap.size < w1.heap.size := by omega
          have l2 : w.heap.size < w1.heap.size + 1 := by omega
          have hB2 := hB1.trans (hb1.mono hB1.size)
          clear CC bx0 hB1 hb1
          obtain ⟨c0, c1, c2, c3⟩ := bx1
          go_wp2
          refine bodyPost_ret (v := .agg #[.string { data := #[] }, .int .u8 0]) (by simp [results, Tryd.results49, go_sem, *]) rfl ⟨by rw [HZ.out]; rfl, by (repeat first | with_reducible exact hB2 | refine Below.setCell ?_ (by first | exact Nat.le_refl _ | (simp; omega)) _ | refine Below.alloc ?_ (by simp; omega) _)⟩
    · have h1i : ((qb.size : Int) == 1) = false := beq_eq_false_iff_ne.2 (by omega)
      rw [listed_B b hcut (modsL_no _ (by rw [ba_len]; exact h1))] at hZ
      have HZ := hid hZ.symm
      clear hZ hcut
      go_enter Tryd.func49, Tryd.ntmps49
      go_wp2_with fail
      with_reducible refine CC.mono ?_
      rintro e w1 ⟨rfl, hb1⟩
      have bx1 := bx0.below hb1 (by simp)
      have hs1 := hb1.size
      simp only [World.size_alloc] at hs1
      have l1 : w.heap.size < w1.heap.size := by omega
      have l2 : w.heap.size < w1.heap.size + 1 := by omega
      have hB2 := hB1.trans (hb1.mono hB1.size)
      clear CC bx0 hB1 hb1
      obtain ⟨c0, c1, c2, c3⟩ := bx1
      go_wp2
      refine bodyPost_ret (v := .agg #[.string { data := #[] }, .int .u8 0]) (by simp [results, Tryd.results49, go_sem, *]) rfl ⟨by rw [HZ.out]; rfl, by (repeat first | with_reducible exact hB2 | refine Below.setCell ?_ (by first | exact Nat.le_refl _ | (simp; omega)) _ | refine Below.alloc ?_ (by simp; omega) _)⟩
end Go.Proofs.YtddigbhijfpmkaaDoor
