/- Layer 21: listed of the reference. (Printed by gen_rb.py.) -/
import Derived.Test.YtddigbhijfpmkaaDoorKeRa
namespace Go.Proofs.YtddigbhijfpmkaaDoor
set_option linter.unusedVariables false
set_option linter.unusedSimpArgs false
set_option maxRecDepth 100000
open Go.RowKit Go.Shelf Go.Lib
set_option maxRecDepth 100000
set_option maxHeartbeats 8000000

theorem cutV_at (p q : By) (two : Bool) : cutV (p, q, two) = .tuple #[.string ⟨p.toArray⟩, .string ⟨q.toArray⟩, .bool two] := rfl
theorem rlisted_any (s : ByteArray) (b : Nat) (w : World) (hs : s.size ≤ 4000000) :
    Calls Tryd.prog 53 #[.string s, .int .u8 (b : Int)] w fun e w' => e = .returned (kyV (listedL s.data.toList b)) ∧ Below w.heap.size w w' := by
  obtain ⟨Z, hZ⟩ : ∃ x, listedL s.data.toList b = x := ⟨_, rfl⟩
  rw [hZ]
  have bx0 : Box2 (w.alloc (.cells #[.string { data := #[] }, .int .u8 0] 31)) w.heap.size { data := #[] } 0 := box_new w _ 0
  have hB1 := (Below.refl w.heap.size w).alloc (Nat.le_refl _) (.cells #[.string { data := #[] }, .int .u8 0] 31)
  have CC := rparted_any s hs (w.alloc (.cells #[.string { data := #[] }, .int .u8 0] 31))
  obtain ⟨⟨p, q, two⟩, hcut⟩ : ∃ x, cutS s.data.toList = x := ⟨_, rfl⟩
  rw [hcut, cutV_at] at CC
  have hone := toList_one p
  have hnil := toList_nil p
  obtain ⟨pb, hpb⟩ : ∃ x, (⟨p.toArray⟩ : ByteArray) = x := ⟨_, rfl⟩
  have hpd : pb.data.toList = p := by rw [← hpb]
  obtain ⟨qb, hqb⟩ : ∃ x, (⟨q.toArray⟩ : ByteArray) = x := ⟨_, rfl⟩
  have hqd : qb.data.toList = q := by rw [← hqb]
  rw [hpb] at CC hone hnil
  rw [hqb] at CC
  have TL := fun w1 => rtilde_any pb w1
  rw [hpd] at TL
  have HTL := hid TL
  have AL := fun w1 => arrow_any b w1
  have HAL := hid AL
  have ML := fun w1 => rmods_any qb w1
  rw [hqd] at ML
  clear hpb hpd hqb hqd TL AL
  cases two with
  | false =>
    rw [listed_A b hcut] at hZ
    clear hcut ML
    by_cases hb : b = 126
    · subst hb
      rw [end_num] at hZ
      obtain ⟨nm, hnm⟩ : ∃ x, numL p = x := ⟨_, rfl⟩
      have NL := fun w1 => HTL.out w1
      rw [hnm] at NL hZ
      have he := toList_nil nm
      obtain ⟨nb, hnb⟩ : ∃ x, (⟨nm.toArray⟩ : ByteArray) = x := ⟨_, rfl⟩
      rw [hnb] at NL he
      have HNB := hid hnb
      clear hnm hnb HTL HAL
      by_cases hn : nm = []
      · rw [if_pos hn] at hZ
        have he2 : (nb.toList == []) = true := by rw [he]; exact decide_eq_true hn
        have HZ := hid hZ
        clear hZ he hn
        go_enter Tryd.func53, Tryd.ntmps53
        go_wp2_with fail
        with_reducible refine CC.mono ?_
        rintro e w1 ⟨rfl, hb1⟩
        have bx1 := bx0.below hb1 (by simp)
        have hs1 := hb1.size
        simp only [World.size_alloc] at hs1
        have l1 : w.heap.size < w1.heap.size := by omega
        have l2 : w.heap.size < w1.heap.size + 1 := by omega
        have l3 : ¬ w1.heap.size = w.heap.size := by omega
        have l4 : ¬ w.heap.size = w1.heap.size := by omega
        have hB2 := hB1.trans (hb1.mono hB1.size)
        have bx2 := bx1.below ((Below.refl w1.heap.size w1).alloc (Nat.le_refl _) (.cells #[.string { data := #[] }, .int .u8 0] 31)) l1
        have by1 : Box2 (w1.alloc (.cells #[.string { data := #[] }, .int .u8 0] 31)) w1.heap.size { data := #[] } 0 := box_new w1 _ 0
        have hB3 := hB2.alloc hB2.size (.cells #[.string { data := #[] }, .int .u8 0] 31)
        clear CC bx0 hB1 hb1
        go_wp2_with fail
        with_reducible refine (NL _).mono ?_
        rintro e w3 ⟨rfl, hb3⟩
        have hs3 := hb3.size
        simp only [World.size_alloc] at hs3
        obtain ⟨c0, c1, c2, c3⟩ := bx2.below hb3 (by simp; omega)
        obtain ⟨d0, d1, d2, d3⟩ := by1.below hb3 (by simp)
        have k1 : w.heap.size < w3.heap.size := by omega
        have k2 : w1.heap.size < w3.heap.size := by omega
        have hB4 := hB3.trans (hb3.mono hB3.size)
        clear hb3 hB3 bx2 by1 bx1
        go_wp2
        refine bodyPost_ret (v := .agg #[.string { data := #[] }, .int .u8 0]) (by simp [results, Tryd.results53, go_sem, *]) rfl ⟨by rw [← HZ.out]; rfl, by (repeat first | with_reducible exact hB4 | refine Below.setCell ?_ (by first | exact Nat.le_refl _ | (simp; omega)) _ | refine Below.alloc ?_ (by simp; omega) _)⟩
      · rw [if_neg hn] at hZ
        have he2 : (nb.toList == []) = false := by rw [he]; exact decide_eq_false hn
        have HZ := hid hZ
        clear hZ he hn
        go_enter Tryd.func53, Tryd.ntmps53
        go_wp2_with fail
        with_reducible refine CC.mono ?_
        rintro e w1 ⟨rfl, hb1⟩
        have bx1 := bx0.below hb1 (by simp)
        have hs1 := hb1.size
        simp only [World.size_alloc] at hs1
        have l1 : w.heap.size < w1.heap.size := by omega
        have l2 : w.heap.size < w1.heap.size + 1 := by omega
        have l3 : ¬ w1.heap.size = w.heap.size := by omega
        have l4 : ¬ w.heap.size = w1.heap.size := by omega
        have hB2 := hB1.trans (hb1.mono hB1.size)
        have bx2 := bx1.below ((Below.refl w1.heap.size w1).alloc (Nat.le_refl _) (.cells #[.string { data := #[] }, .int .u8 0] 31)) l1
        have by1 : Box2 (w1.alloc (.cells #[.string { data := #[] }, .int .u8 0] 31)) w1.heap.size { data := #[] } 0 := box_new w1 _ 0
        have hB3 := hB2.alloc hB2.size (.cells #[.string { data := #[] }, .int .u8 0] 31)
        clear CC bx0 hB1 hb1
        go_wp2_with fail
        with_reducible refine (NL _).mono ?_
        rintro e w3 ⟨rfl, hb3⟩
        have hs3 := hb3.size
        simp only [World.size_alloc] at hs3
        obtain ⟨c0, c1, c2, c3⟩ := bx2.below hb3 (by simp; omega)
        obtain ⟨d0, d1, d2, d3⟩ := by1.below hb3 (by simp)
        have k1 : w.heap.size < w3.heap.size := by omega
        have k2 : w1.heap.size < w3.heap.size := by omega
        have hB4 := hB3.trans (hb3.mono hB3.size)
        clear hb3 hB3 bx2 by1 bx1
        go_wp2
        refine bodyPost_ret (v := .agg #[.string nb, .int .u8 0]) (by simp [results, Tryd.results53, go_sem, *]) rfl ⟨by rw [← HZ.out, ← HNB.out]; rfl, by (repeat first | with_reducible exact hB4 | refine Below.setCell ?_ (by first | exact Nat.le_refl _ | (simp; omega)) _ | refine Below.alloc ?_ (by simp; omega) _)⟩
    have eb : ((b : Int) == 126) = false := beq_eq_false_iff_ne.2 (by omega)
    by_cases h1 : p = [49]
    · rw [end_arr hb (.inl h1)] at hZ
      rw [decide_eq_true h1] at hone
      clear h1 hb hnil
      obtain ⟨nm, hnm⟩ : ∃ x, arrL b = x := ⟨_, rfl⟩
      have NL := fun w1 => HAL.out w1
      rw [hnm] at NL hZ
      have he := toList_nil nm
      obtain ⟨nb, hnb⟩ : ∃ x, (⟨nm.toArray⟩ : ByteArray) = x := ⟨_, rfl⟩
      rw [hnb] at NL he
      have HNB := hid hnb
      clear hnm hnb HTL HAL
      by_cases hn : nm = []
      · rw [if_pos hn] at hZ
        have he2 : (nb.toList == []) = true := by rw [he]; exact decide_eq_true hn
        have HZ := hid hZ
        clear hZ he hn
        go_enter Tryd.func53, Tryd.ntmps53
        go_wp2_with fail
        with_reducible refine CC.mono ?_
        rintro e w1 ⟨rfl, hb1⟩
        have bx1 := bx0.below hb1 (by simp)
        have hs1 := hb1.size
        simp only [World.size_alloc] at hs1
        have l1 : w.heap.size < w1.heap.size := by omega
        have l2 : w.heap.size < w1.heap.size + 1 := by omega
        have l3 : ¬ w1.heap.size = w.heap.size := by omega
        have l4 : ¬ w.heap.size = w1.heap.size := by omega
        have hB2 := hB1.trans (hb1.mono hB1.size)
        have bx2 := bx1.below ((Below.refl w1.heap.size w1).alloc (Nat.le_refl _) (.cells #[.string { data := #[] }, .int .u8 0] 31)) l1
        have by1 : Box2 (w1.alloc (.cells #[.string { data := #[] }, .int .u8 0] 31)) w1.heap.size { data := #[] } 0 := box_new w1 _ 0
        have hB3 := hB2.alloc hB2.size (.cells #[.string { data := #[] }, .int .u8 0] 31)
        clear CC bx0 hB1 hb1
        go_wp2_with fail
        with_reducible refine (NL _).mono ?_
        rintro e w3 ⟨rfl, rfl⟩
        obtain ⟨c0, c1, c2, c3⟩ := bx1
        clear bx2 by1
        go_wp2
        refine bodyPost_ret (v := .agg #[.string { data := #[] }, .int .u8 0]) (by simp [results, Tryd.results53, go_sem, *]) rfl ⟨by rw [← HZ.out]; rfl, by (repeat first | with_reducible exact hB2 | refine Below.setCell ?_ (by first | exact Nat.le_refl _ | (simp; omega)) _ | refine Below.alloc ?_ (by simp; omega) _)⟩
      · rw [if_neg hn] at hZ
        have he2 : (nb.toList == []) = false := by rw [he]; exact decide_eq_false hn
        have HZ := hid hZ
        clear hZ he hn
        go_enter Tryd.func53, Tryd.ntmps53
        go_wp2_with fail
        with_reducible refine CC.mono ?_
        rintro e w1 ⟨rfl, hb1⟩
        have bx1 := bx0.below hb1 (by simp)
        have hs1 := hb1.size
        simp only [World.size_alloc] at hs1
        have l1 : w.heap.size < w1.heap.size := by omega
        have l2 : w.heap.size < w1.heap.size + 1 := by omega
        have l3 : ¬ w1.heap.size = w.heap.size := by omega
        have l4 : ¬ w.heap.size = w1.heap.size := by omega
        have hB2 := hB1.trans (hb1.mono hB1.size)
        have bx2 := bx1.below ((Below.refl w1.heap.size w1).alloc (Nat.le_refl _) (.cells #[.string { data := #[] }, .int .u8 0] 31)) l1
        have by1 : Box2 (w1.alloc (.cells #[.string { data := #[] }, .int .u8 0] 31)) w1.heap.size { data := #[] } 0 := box_new w1 _ 0
        have hB3 := hB2.alloc hB2.size (.cells #[.string { data := #[] }, .int .u8 0] 31)
        clear CC bx0 hB1 hb1
        go_wp2_with fail
        with_reducible refine (NL _).mono ?_
        rintro e w3 ⟨rfl, rfl⟩
        obtain ⟨c0, c1, c2, c3⟩ := bx1
        clear bx2 by1
        go_wp2
        refine bodyPost_ret (v := .agg #[.string nb, .int .u8 0]) (by simp [results, Tryd.results53, go_sem, *]) rfl ⟨by rw [← HZ.out, ← HNB.out]; rfl, by (repeat first | with_reducible exact hB2 | refine Below.setCell ?_ (by first | exact Nat.le_refl _ | (simp; omega)) _ | refine Below.alloc ?_ (by simp; omega) _)⟩
    by_cases h2 : p = []
    · rw [end_arr hb (.inr ⟨h2, rfl⟩)] at hZ
      rw [decide_eq_false h1] at hone
      rw [decide_eq_true h2] at hnil
      clear h1 h2 hb
      obtain ⟨nm, hnm⟩ : ∃ x, arrL b = x := ⟨_, rfl⟩
      have NL := fun w1 => HAL.out w1
      rw [hnm] at NL hZ
      have he := toList_nil nm
      obtain ⟨nb, hnb⟩ : ∃ x, (⟨nm.toArray⟩ : ByteArray) = x := ⟨_, rfl⟩
      rw [hnb] at NL he
      have HNB := hid hnb
      clear hnm hnb HTL HAL
      by_cases hn : nm = []
      · rw [if_pos hn] at hZ
        have he2 : (nb.toList == []) = true := by rw [he]; exact decide_eq_true hn
        have HZ := hid hZ
        clear hZ he hn
        go_enter Tryd.func53, Tryd.ntmps53
        go_wp2_with fail
        with_reducible refine CC.mono ?_
        rintro e w1 ⟨rfl, hb1⟩
        have bx1 := bx0.below hb1 (by simp)
        have hs1 := hb1.size
        simp only [World.size_alloc] at hs1
        have l1 : w.heap.size < w1.heap.size := by omega
        have l2 : w.heap.size < w1.heap.size + 1 := by omega
        have l3 : ¬ w1.heap.size = w.heap.size := by omega
        have l4 : ¬ w.heap.size = w1.heap.size := by omega
        have hB2 := hB1.trans (hb1.mono hB1.size)
        have bx2 := bx1.below ((Below.refl w1.heap.size w1).alloc (Nat.le_refl _) (.cells #[.string { data := #[] }, .int .u8 0] 31)) l1
        have by1 : Box2 (w1.alloc (.cells #[.string { data := #[] }, .int .u8 0] 31)) w1.heap.size { data := #[] } 0 := box_new w1 _ 0
        have hB3 := hB2.alloc hB2.size (.cells #[.string { data := #[] }, .int .u8 0] 31)
        clear CC bx0 hB1 hb1
        go_wp2_with fail
        with_reducible refine (NL _).mono ?_
        rintro e w3 ⟨rfl, rfl⟩
        obtain ⟨c0, c1, c2, c3⟩ := bx1
        clear bx2 by1
        go_wp2
        refine bodyPost_ret (v := .agg #[.string { data := #[] }, .int .u8 0]) (by simp [results, Tryd.results53, go_sem, *]) rfl ⟨by rw [← HZ.out]; rfl, by (repeat first | with_reducible exact hB2 | refine Below.setCell ?_ (by first | exact Nat.le_refl _ | (simp; omega)) _ | refine Below.alloc ?_ (by simp; omega) _)⟩
      · rw [if_neg hn] at hZ
        have he2 : (nb.toList == []) = false := by rw [he]; exact decide_eq_false hn
        have HZ := hid hZ
        clear hZ he hn
        go_enter Tryd.func53, Tryd.ntmps53
        go_wp2_with fail
        with_reducible refine CC.mono ?_
        rintro e w1 ⟨rfl, hb1⟩
        have bx1 := bx0.below hb1 (by simp)
        have hs1 := hb1.size
        simp only [World.size_alloc] at hs1
        have l1 : w.heap.size < w1.heap.size := by omega
        have l2 : w.heap.size < w1.heap.size + 1 := by omega
        have l3 : ¬ w1.heap.size = w.heap.size := by omega
        have l4 : ¬ w.heap.size = w1.heap.size := by omega
        have hB2 := hB1.trans (hb1.mono hB1.size)
        have bx2 := bx1.below ((Below.refl w1.heap.size w1).alloc (Nat.le_refl _) (.cells #[.string { data := #[] }, .int .u8 0] 31)) l1
        have by1 : Box2 (w1.alloc (.cells #[.string { data := #[] }, .int .u8 0] 31)) w1.heap.size { data := #[] } 0 := box_new w1 _ 0
        have hB3 := hB2.alloc hB2.size (.cells #[.string { data := #[] }, .int .u8 0] 31)
        clear CC bx0 hB1 hb1
        go_wp2_with fail
        with_reducible refine (NL _).mono ?_
        rintro e w3 ⟨rfl, rfl⟩
        obtain ⟨c0, c1, c2, c3⟩ := bx1
        clear bx2 by1
        go_wp2
        refine bodyPost_ret (v := .agg #[.string nb, .int .u8 0]) (by simp [results, Tryd.results53, go_sem, *]) rfl ⟨by rw [← HZ.out, ← HNB.out]; rfl, by (repeat first | with_reducible exact hB2 | refine Below.setCell ?_ (by first | exact Nat.le_refl _ | (simp; omega)) _ | refine Below.alloc ?_ (by simp; omega) _)⟩
    · rw [end_no hb (fun h => h.elim h1 (fun h => h2 h.1)), if_pos rfl] at hZ
      rw [decide_eq_false h1] at hone
      rw [decide_eq_false h2] at hnil
      clear h1 h2 hb
      have HZ := hid hZ
      clear hZ HTL HAL
      go_enter Tryd.func53, Tryd.ntmps53
      go_wp2_with fail
      with_reducible refine CC.mono ?_
      rintro e w1 ⟨rfl, hb1⟩
      have bx1 := bx0.below hb1 (by simp)
      have hs1 := hb1.size
      simp only [World.size_alloc] at hs1
      have l1 : w.heap.size < w1.heap.size := by omega
      have l2 : w.heap.size < w1.heap.size + 1 := by omega
      have l3 : ¬ w1.heap.size = w.heap.size := by omega
      have l4 : ¬ w.heap.size = w1.heap.size := by omega
      have hB2 := hB1.trans (hb1.mono hB1.size)
      have bx2 := bx1.below ((Below.refl w1.heap.size w1).alloc (Nat.le_refl _) (.cells #[.string { data := #[] }, .int .u8 0] 31)) l1
      have by1 : Box2 (w1.alloc (.cells #[.string { data := #[] }, .int .u8 0] 31)) w1.heap.size { data := #[] } 0 := box_new w1 _ 0
      have hB3 := hB2.alloc hB2.size (.cells #[.string { data := #[] }, .int .u8 0] 31)
      clear CC bx0 hB1 hb1
      obtain ⟨c0, c1, c2, c3⟩ := bx1
      clear bx2 by1
      go_wp2
      refine bodyPost_ret (v := .agg #[.string { data := #[] }, .int .u8 0]) (by simp [results, Tryd.results53, go_sem, *]) rfl ⟨by rw [← HZ.out]; rfl, by (repeat first | with_reducible exact hB2 | refine Below.setCell ?_ (by first | exact Nat.le_refl _ | (simp; omega)) _ | refine Below.alloc ?_ (by simp; omega) _)⟩
  | true =>
    cases hm : modsL q with
    | none =>
      rw [listed_B b hcut hm] at hZ
      rw [hm] at ML
      rw [show modsV none = .tuple #[.int .u8 0, .bool false] from rfl] at ML
      clear hcut hm hone hnil HTL HAL
      have HZ := hid hZ
      clear hZ
      go_enter Tryd.func53, Tryd.ntmps53
      go_wp2_with fail
      with_reducible refine CC.mono ?_
      rintro e w1 ⟨rfl, hb1⟩
      have bx1 := bx0.below hb1 (by simp)
      have hs1 := hb1.size
      simp only [World.size_alloc] at hs1
      have l1 : w.heap.size < w1.heap.size := by omega
      have l2 : w.heap.size < w1.heap.size + 1 := by omega
      have l3 : ¬ w1.heap.size = w.heap.size := by omega
      have l4 : ¬ w.heap.size = w1.heap.size := by omega
      have hB2 := hB1.trans (hb1.mono hB1.size)
      have bx2 := bx1.below ((Below.refl w1.heap.size w1).alloc (Nat.le_refl _) (.cells #[.string { data := #[] }, .int .u8 0] 31)) l1
      have by1 : Box2 (w1.alloc (.cells #[.string { data := #[] }, .int .u8 0] 31)) w1.heap.size { data := #[] } 0 := box_new w1 _ 0
      have hB3 := hB2.alloc hB2.size (.cells #[.string { data := #[] }, .int .u8 0] 31)
      clear CC bx0 hB1 hb1
      go_wp2_with fail
      with_reducible refine (ML _).mono ?_
      rintro e w' ⟨rfl, rfl⟩
      clear ML
      obtain ⟨c0, c1, c2, c3⟩ := bx1
      clear bx2 by1
      go_wp2
      refine bodyPost_ret (v := .agg #[.string { data := #[] }, .int .u8 0]) (by simp [results, Tryd.results53, go_sem, *]) rfl ⟨by rw [← HZ.out]; rfl, by (repeat first | with_reducible exact hB2 | refine Below.setCell ?_ (by first | exact Nat.le_refl _ | (simp; omega)) _ | refine Below.alloc ?_ (by simp; omega) _)⟩
    | some k =>
      rw [listed_C b hcut hm] at hZ
      rw [hm] at ML
      rw [show modsV (some k) = .tuple #[.int .u8 (k : Int), .bool true] from rfl] at ML
      clear hcut hm
      by_cases hb : b = 126
      · subst hb
        rw [end_num] at hZ
        obtain ⟨nm, hnm⟩ : ∃ x, numL p = x := ⟨_, rfl⟩
        have NL := fun w1 => HTL.out w1
        rw [hnm] at NL hZ
        have he := toList_nil nm
        obtain ⟨nb, hnb⟩ : ∃ x, (⟨nm.toArray⟩ : ByteArray) = x := ⟨_, rfl⟩
        rw [hnb] at NL he
        have HNB := hid hnb
        clear hnm hnb HTL HAL
        by_cases hn : nm = []
        · rw [if_pos hn] at hZ
          have he2 : (nb.toList == []) = true := by rw [he]; exact decide_eq_true hn
          have HZ := hid hZ
          clear hZ he hn
          go_enter Tryd.func53, Tryd.ntmps53
          go_wp2_with fail
          with_reducible refine CC.mono ?_
          rintro e w1 ⟨rfl, hb1⟩
          have bx1 := bx0.below hb1 (by simp)
          have hs1 := hb1.size
          simp only [World.size_alloc] at hs1
          have l1 : w.heap.size < w1.heap.size := by omega
          have l2 : w.heap.size < w1.heap.size + 1 := by omega
          have l3 : ¬ w1.heap.size = w.heap.size := by omega
          have l4 : ¬ w.heap.size = w1.heap.size := by omega
          have hB2 := hB1.trans (hb1.mono hB1.size)
          have bx2 := bx1.below ((Below.refl w1.heap.size w1).alloc (Nat.le_refl _) (.cells #[.string { data := #[] }, .int .u8 (k : Int)] 31)) l1
          have by1 : Box2 (w1.alloc (.cells #[.string { data := #[] }, .int .u8 (k : Int)] 31)) w1.heap.size { data := #[] } k := box_new w1 _ k
          have hB3 := hB2.alloc hB2.size (.cells #[.string { data := #[] }, .int .u8 (k : Int)] 31)
          clear CC bx0 hB1 hb1
          go_wp2_with fail
          with_reducible refine (ML _).mono ?_
          rintro e w' ⟨rfl, rfl⟩
          clear ML
          go_wp2_with fail
          with_reducible refine (NL _).mono ?_
          rintro e w3 ⟨rfl, hb3⟩
          have hs3 := hb3.size
          simp only [World.size_alloc] at hs3
          obtain ⟨c0, c1, c2, c3⟩ := bx2.below hb3 (by simp; omega)
          obtain ⟨d0, d1, d2, d3⟩ := by1.below hb3 (by simp)
          have k1 : w.heap.size < w3.heap.size := by omega
          have k2 : w1.heap.size < w3.heap.size := by omega
          have hB4 := hB3.trans (hb3.mono hB3.size)
          clear hb3 hB3 bx2 by1 bx1
          go_wp2
          refine bodyPost_ret (v := .agg #[.string { data := #[] }, .int .u8 0]) (by simp [results, Tryd.results53, go_sem, *]) rfl ⟨by rw [← HZ.out]; rfl, by (repeat first | with_reducible exact hB4 | refine Below.setCell ?_ (by first | exact Nat.le_refl _ | (simp; omega)) _ | refine Below.alloc ?_ (by simp; omega) _)⟩
        · rw [if_neg hn] at hZ
          have he2 : (nb.toList == []) = false := by rw [he]; exact decide_eq_false hn
          have HZ := hid hZ
          clear hZ he hn
          go_enter Tryd.func53, Tryd.ntmps53
          go_wp2_with fail
          with_reducible refine CC.mono ?_
          rintro e w1 ⟨rfl, hb1⟩
          have bx1 := bx0.below hb1 (by simp)
          have hs1 := hb1.size
          simp only [World.size_alloc] at hs1
          have l1 : w.heap.size < w1.heap.size := by omega
          have l2 : w.heap.size < w1.heap.size + 1 := by omega
          have l3 : ¬ w1.heap.size = w.heap.size := by omega
          have l4 : ¬ w.heap.size = w1.heap.size := by omega
          have hB2 := hB1.trans (hb1.mono hB1.size)
          have bx2 := bx1.below ((Below.refl w1.heap.size w1).alloc (Nat.le_refl _) (.cells #[.string { data := #[] }, .int .u8 (k : Int)] 31)) l1
          have by1 : Box2 (w1.alloc (.cells #[.string { data := #[] }, .int .u8 (k : Int)] 31)) w1.heap.size { data := #[] } k := box_new w1 _ k
          have hB3 := hB2.alloc hB2.size (.cells #[.string { data := #[] }, .int .u8 (k : Int)] 31)
          clear CC bx0 hB1 hb1
          go_wp2_with fail
          with_reducible refine (ML _).mono ?_
          rintro e w' ⟨rfl, rfl⟩
          clear ML
          go_wp2_with fail
          with_reducible refine (NL _).mono ?_
          rintro e w3 ⟨rfl, hb3⟩
          have hs3 := hb3.size
          simp only [World.size_alloc] at hs3
          obtain ⟨c0, c1, c2, c3⟩ := bx2.below hb3 (by simp; omega)
          obtain ⟨d0, d1, d2, d3⟩ := by1.below hb3 (by simp)
          have k1 : w.heap.size < w3.heap.size := by omega
          have k2 : w1.heap.size < w3.heap.size := by omega
          have hB4 := hB3.trans (hb3.mono hB3.size)
          clear hb3 hB3 bx2 by1 bx1
          go_wp2
          refine bodyPost_ret (v := .agg #[.string nb, .int .u8 (k : Int)]) (by simp [results, Tryd.results53, go_sem, *]) rfl ⟨by rw [← HZ.out, ← HNB.out]; rfl, by (repeat first | with_reducible exact hB4 | refine Below.setCell ?_ (by first | exact Nat.le_refl _ | (simp; omega)) _ | refine Below.alloc ?_ (by simp; omega) _)⟩
      have eb : ((b : Int) == 126) = false := beq_eq_false_iff_ne.2 (by omega)
      by_cases h1 : p = [49]
      · rw [end_arr hb (.inl h1)] at hZ
        rw [decide_eq_true h1] at hone
        clear h1 hb hnil
        obtain ⟨nm, hnm⟩ : ∃ x, arrL b = x := ⟨_, rfl⟩
        have NL := fun w1 => HAL.out w1
        rw [hnm] at NL hZ
        have he := toList_nil nm
        obtain ⟨nb, hnb⟩ : ∃ x, (⟨nm.toArray⟩ : ByteArray) = x := ⟨_, rfl⟩
        rw [hnb] at NL he
        have HNB := hid hnb
        clear hnm hnb HTL HAL
        by_cases hn : nm = []
        · rw [if_pos hn] at hZ
          have he2 : (nb.toList == []) = true := by rw [he]; exact decide_eq_true hn
          have HZ := hid hZ
          clear hZ he hn
          go_enter Tryd.func53, Tryd.ntmps53
          go_wp2_with fail
          with_reducible refine CC.mono ?_
          rintro e w1 ⟨rfl, hb1⟩
          have bx1 := bx0.below hb1 (by simp)
          have hs1 := hb1.size
          simp only [World.size_alloc] at hs1
          have l1 : w.heap.size < w1.heap.size := by omega
          have l2 : w.heap.size < w1.heap.size + 1 := by omega
          have l3 : ¬ w1.heap.size = w.heap.size := by omega
          have l4 : ¬ w.heap.size = w1.heap.size := by omega
          have hB2 := hB1.trans (hb1.mono hB1.size)
          have bx2 := bx1.below ((Below.refl w1.heap.size w1).alloc (Nat.le_refl _) (.cells #[.string { data := #[] }, .int .u8 (k : Int)] 31)) l1
          have by1 : Box2 (w1.alloc (.cells #[.string { data := #[] }, .int .u8 (k : Int)] 31)) w1.heap.size { data := #[] } k := box_new w1 _ k
          have hB3 := hB2.alloc hB2.size (.cells #[.string { data := #[] }, .int .u8 (k : Int)] 31)
          clear CC bx0 hB1 hb1
          go_wp2_with fail
          with_reducible refine (ML _).mono ?_
          rintro e w' ⟨rfl, rfl⟩
          clear ML
          go_wp2_with fail
          with_reducible refine (NL _).mono ?_
          rintro e w3 ⟨rfl, rfl⟩
          obtain ⟨c0, c1, c2, c3⟩ := bx1
          clear bx2 by1
          go_wp2
          refine bodyPost_ret (v := .agg #[.string { data := #[] }, .int .u8 0]) (by simp [results, Tryd.results53, go_sem, *]) rfl ⟨by rw [← HZ.out]; rfl, by (repeat first | with_reducible exact hB2 | refine Below.setCell ?_ (by first | exact Nat.le_refl _ | (simp; omega)) _ | refine Below.alloc ?_ (by simp; omega) _)⟩
        · rw [if_neg hn] at hZ
          have he2 : (nb.toList == []) = false := by rw [he]; exact decide_eq_false hn
          have HZ := hid hZ
          clear hZ he hn
          go_enter Tryd.func53, Tryd.ntmps53
          go_wp2_with fail
          with_reducible refine CC.mono ?_
          rintro e w1 ⟨rfl, hb1⟩
          have bx1 := bx0.below hb1 (by simp)
          have hs1 := hb1.size
          simp only [World.size_alloc] at hs1
          have l1 : w.heap.size < w1.heap.size := by omega
          have l2 : w.heap.size < w1.heap.size + 1 := by omega
          have l3 : ¬ w1.heap.size = w.heap.size := by omega
          have l4 : ¬ w.heap.size = w1.heap.size := by omega
          have hB2 := hB1.trans (hb1.mono hB1.size)
          have bx2 := bx1.below ((Below.refl w1.heap.size w1).alloc (Nat.le_refl _) (.cells #[.string { data := #[] }, .int .u8 (k : Int)] 31)) l1
          have by1 : Box2 (w1.alloc (.cells #[.string { data := #[] }, .int .u8 (k : Int)] 31)) w1.heap.size { data := #[] } k := box_new w1 _ k
          have hB3 := hB2.alloc hB2.size (.cells #[.string { data := #[] }, .int .u8 (k : Int)] 31)
          clear CC bx0 hB1 hb1
          go_wp2_with fail
          with_reducible refine (ML _).mono ?_
          rintro e w' ⟨rfl, rfl⟩
          clear ML
          go_wp2_with fail
          with_reducible refine (NL _).mono ?_
          rintro e w3 ⟨rfl, rfl⟩
          obtain ⟨c0, c1, c2, c3⟩ := bx1
          clear bx2 by1
          go_wp2
          refine bodyPost_ret (v := .agg #[.string nb, .int .u8 (k : Int)]) (by simp [results, Tryd.results53, go_sem, *]) rfl ⟨by rw [← HZ.out, ← HNB.out]; rfl, by (repeat first | with_reducible exact hB2 | refine Below.setCell ?_ (by first | exact Nat.le_refl _ | (simp; omega)) _ | refine Below.alloc ?_ (by simp; omega) _)⟩
      by_cases h2 : p = []
      · rw [end_no hb (fun h => h.elim h1 (fun h => absurd h.2 (by decide))), if_pos rfl] at hZ
        rw [decide_eq_false h1] at hone
        rw [decide_eq_true h2] at hnil
        clear h1 h2 hb
        have HZ := hid hZ
        clear hZ HTL HAL
        go_enter Tryd.func53, Tryd.ntmps53
        go_wp2_with fail
        with_reducible refine CC.mono ?_
        rintro e w1 ⟨rfl, hb1⟩
        have bx1 := bx0.below hb1 (by simp)
        have hs1 := hb1.size
        simp only [World.size_alloc] at hs1
        have l1 : w.heap.size < w1.heap.size := by omega
        have l2 : w.heap.size < w1.heap.size + 1 := by omega
        have l3 : ¬ w1.heap.size = w.heap.size := by omega
        have l4 : ¬ w.heap.size = w1.heap.size := by omega
        have hB2 := hB1.trans (hb1.mono hB1.size)
        have bx2 := bx1.below ((Below.refl w1.heap.size w1).alloc (Nat.le_refl _) (.cells #[.string { data := #[] }, .int .u8 (k : Int)] 31)) l1
        have by1 : Box2 (w1.alloc (.cells #[.string { data := #[] }, .int .u8 (k : Int)] 31)) w1.heap.size { data := #[] } k := box_new w1 _ k
        have hB3 := hB2.alloc hB2.size (.cells #[.string { data := #[] }, .int .u8 (k : Int)] 31)
        clear CC bx0 hB1 hb1
        go_wp2_with fail
        with_reducible refine (ML _).mono ?_
        rintro e w' ⟨rfl, rfl⟩
        clear ML
        obtain ⟨c0, c1, c2, c3⟩ := bx1
        clear bx2 by1
        go_wp2
        refine bodyPost_ret (v := .agg #[.string { data := #[] }, .int .u8 0]) (by simp [results, Tryd.results53, go_sem, *]) rfl ⟨by rw [← HZ.out]; rfl, by (repeat first | with_reducible exact hB2 | refine Below.setCell ?_ (by first | exact Nat.le_refl _ | (simp; omega)) _ | refine Below.alloc ?_ (by simp; omega) _)⟩
      · rw [end_no hb (fun h => h.elim h1 (fun h => absurd h.2 (by decide))), if_pos rfl] at hZ
        rw [decide_eq_false h1] at hone
        rw [decide_eq_false h2] at hnil
        clear h1 h2 hb
        have HZ := hid hZ
        clear hZ HTL HAL
        go_enter Tryd.func53, Tryd.ntmps53
        go_wp2_with fail
        with_reducible refine CC.mono ?_
        rintro e w1 ⟨rfl, hb1⟩
        have bx1 := bx0.below hb1 (by simp)
        have hs1 := hb1.size
        simp only [World.size_alloc] at hs1
        have l1 : w.heap.size < w1.heap.size := by omega
        have l2 : w.heap.size < w1.heap.size + 1 := by omega
        have l3 : ¬ w1.heap.size = w.heap.size := by omega
        have l4 : ¬ w.heap.size = w1.heap.size := by omega
        have hB2 := hB1.trans (hb1.mono hB1.size)
        have bx2 := bx1.below ((Below.refl w1.heap.size w1).alloc (Nat.le_refl _) (.cells #[.string { data := #[] }, .int .u8 (k : Int)] 31)) l1
        have by1 : Box2 (w1.alloc (.cells #[.string { data := #[] }, .int .u8 (k : Int)] 31)) w1.heap.size { data := #[] } k := box_new w1 _ k
        have hB3 := hB2.alloc hB2.size (.cells #[.string { data := #[] }, .int .u8 (k : Int)] 31)
        clear CC bx0 hB1 hb1
        go_wp2_with fail
        with_reducible refine (ML _).mono ?_
        rintro e w' ⟨rfl, rfl⟩
        clear ML
        obtain ⟨c0, c1, c2, c3⟩ := bx1
        clear bx2 by1
        go_wp2
        refine bodyPost_ret (v := .agg #[.string { data := #[] }, .int .u8 0]) (by simp [results, Tryd.results53, go_sem, *]) rfl ⟨by rw [← HZ.out]; rfl, by (repeat first | with_reducible exact hB2 | refine Below.setCell ?_ (by first | exact Nat.le_refl _ | (simp; omega)) _ | refine Below.alloc ?_ (by simp; omega) _)⟩
end Go.Proofs.YtddigbhijfpmkaaDoor
