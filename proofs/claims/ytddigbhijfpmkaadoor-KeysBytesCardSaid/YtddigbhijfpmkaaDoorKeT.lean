/- Layer 21: thing of the program. (Printed by gen_t.py.) -/
import Derived.Test.YtddigbhijfpmkaaDoorKeS
namespace Go.Proofs.YtddigbhijfpmkaaDoor
set_option linter.unusedVariables false
set_option linter.unusedSimpArgs false
set_option maxRecDepth 100000
open Go.RowKit Go.Shelf Go.Lib
set_option maxRecDepth 100000
set_option maxHeartbeats 4000000

theorem pV_at (nm : By) (md n : Nat) : pV (⟨nm, md⟩, n) = .tuple #[.agg #[.string ⟨nm.toArray⟩, .int .u8 (md : Int)], .int .i64 (n : Int)] := rfl
theorem single_md (b : Nat) (k : Ky) (h : singleL b = some k) : k.md < 8 := by
  unfold singleL at h
  repeat' split at h
  all_goals first
    | (cases h; exact Nat.lt_of_lt_of_le (show (0 : Nat) < 1 by decide) (by decide))
    | (cases h; exact (show (2 : Nat) < 8 by decide))
    | (simp only [Option.some.injEq] at h; subst h; exact (show (2 : Nat) < 8 by decide))
    | cases h
theorem plain_md (l : By) : (plainL l).1.md < 8 := by
  unfold plainL
  split
  · rename_i k h
    exact single_md _ k h
  · split
    · split <;> decide
    · split
      · exact (show (0 : Nat) < 8 by decide)
      · exact (show (0 : Nat) < 8 by decide)
theorem thing_any (s : ByteArray) (w : World) (hT : Tabs w) (h0 : 0 < s.size) (hs : s.size ≤ 4000000) : Calls Tryd.prog 22 #[.string s] w fun e w' => e = .returned (pV (thingL s.data.toList)) ∧ Below w.heap.size w w' := by
  obtain ⟨Z, hZ⟩ : ∃ x, thingL s.data.toList = x := ⟨_, rfl⟩
  rw [hZ]
  unfold thingL at hZ
  have hB1 := (Below.refl w.heap.size w).alloc (Nat.le_refl _) (.cells #[.string { data := #[] }, .int .u8 0] 31)
  have bx1 : Box2 (w.alloc (.cells #[.string { data := #[] }, .int .u8 0] 31)) w.heap.size { data := #[] } 0 := box_new w _ 0
  have hg0 : s.data.toList.getD 0 0 = s[0] := by
    rw [List.getD_eq_getElem?_getD, List.getElem?_eq_getElem (by rw [ba_len]; exact h0)]
    rfl
  rw [hg0, ba_len] at hZ
  obtain ⟨x, hx⟩ : ∃ x, s[0].toNat = x := ⟨_, rfl⟩
  rw [hx] at hZ
  clear hg0
  by_cases hx27 : x = 27
  · rw [if_neg (fun h => h hx27)] at hZ
    subst hx27
    by_cases hl1 : s.size = 1
    · rw [if_pos hl1] at hZ
      have HZ := hid hZ
      have e1 : ((s.size : Int) == 1) = true := beq_iff_eq.2 (by omega)
      clear hZ
      go_enter Tryd.func22, Tryd.ntmps22
      go_wp2
      refine bodyPost_ret (v := .tuple #[.agg #[.string { data := #[] }, .int .u8 0], .int .i64 0]) (by simp [results, Tryd.results22, go_sem, *]) rfl ⟨by rw [← HZ.out]; rfl, by (repeat first | with_reducible exact hB1 | refine Below.setCell ?_ (by first | exact Nat.le_refl _ | (simp; omega)) _ | refine Below.alloc ?_ (by simp; omega) _)⟩
    rw [if_neg hl1] at hZ
    have e1 : ((s.size : Int) == 1) = false := beq_eq_false_iff_ne.2 (by omega)
    have l2 : 1 < s.size := by omega
    have hg1 : s.data.toList.getD 1 0 = s[1] := by
      rw [List.getD_eq_getElem?_getD, List.getElem?_eq_getElem (by rw [ba_len]; exact l2)]
      rfl
    rw [hg1] at hZ
    obtain ⟨y, hy⟩ : ∃ x, s[1].toNat = x := ⟨_, rfl⟩
    rw [hy] at hZ
    clear hg1
    by_cases h91 : y = 91
    · rw [if_pos h91] at hZ
      subst h91
      have C := bracket_any s _ (tabs_on hT hB1) (by omega) hs
      obtain ⟨⟨⟨nm, md⟩, n⟩, hp⟩ : ∃ y, bracketL s.data.toList = y := ⟨_, rfl⟩
      rw [hp] at C hZ
      rw [pV_at] at C
      have HZ := hid hZ
      clear hZ hp
      go_enter Tryd.func22, Tryd.ntmps22
      go_wp2_with fail
      with_reducible refine C.mono ?_
      rintro e w2 ⟨rfl, hb2⟩
      obtain ⟨c0, c1, c2, c3⟩ := bx1.below hb2 (by simp)
      have hs2 := hb2.size
      simp only [World.size_alloc] at hs2
      have k1 : w.heap.size < w2.heap.size := by omega
      have hB2 := hB1.trans (hb2.mono hB1.size)
      clear C bx1 hb2 hB1
      go_wp2
      refine bodyPost_ret (v := .tuple #[.agg #[.string ⟨nm.toArray⟩, .int .u8 (md : Int)], .int .i64 (n : Int)]) (by simp [results, Tryd.results22, go_sem, *]) rfl ⟨by rw [← HZ.out]; rfl, by (repeat first | with_reducible exact hB2 | refine Below.setCell ?_ (by first | exact Nat.le_refl _ | (simp; omega)) _ | refine Below.alloc ?_ (by simp; omega) _)⟩
    rw [if_neg h91] at hZ
    have e91 : ((y : Int) == 91) = false := beq_eq_false_iff_ne.2 (by omega)
    by_cases h79 : y = 79
    · rw [if_pos h79] at hZ
      subst h79
      have C := letter_any s (w.alloc (.cells #[.string { data := #[] }, .int .u8 0] 31)) (by omega) hs
      obtain ⟨⟨⟨nm, md⟩, n⟩, hp⟩ : ∃ y, letterL s.data.toList = y := ⟨_, rfl⟩
      rw [hp] at C hZ
      rw [pV_at] at C
      have HZ := hid hZ
      clear hZ hp
      go_enter Tryd.func22, Tryd.ntmps22
      go_wp2_with fail
      with_reducible refine C.mono ?_
      rintro e w2 ⟨rfl, hb2⟩
      obtain ⟨c0, c1, c2, c3⟩ := bx1.below hb2 (by simp)
      have hs2 := hb2.size
      simp only [World.size_alloc] at hs2
      have k1 : w.heap.size < w2.heap.size := by omega
      have hB2 := hB1.trans (hb2.mono hB1.size)
      clear C bx1 hb2 hB1
      go_wp2
      refine bodyPost_ret (v := .tuple #[.agg #[.string ⟨nm.toArray⟩, .int .u8 (md : Int)], .int .i64 (n : Int)]) (by simp [results, Tryd.results22, go_sem, *]) rfl ⟨by rw [← HZ.out]; rfl, by (repeat first | with_reducible exact hB2 | refine Below.setCell ?_ (by first | exact Nat.le_refl _ | (simp; omega)) _ | refine Below.alloc ?_ (by simp; omega) _)⟩
    rw [if_neg h79] at hZ
    have e79 : ((y : Int) == 79) = false := beq_eq_false_iff_ne.2 (by omega)
    by_cases h27 : y = 27
    · rw [if_pos h27] at hZ
      subst h27
      have HZ := hid hZ
      clear hZ e79 e91
      go_enter Tryd.func22, Tryd.ntmps22
      go_wp2
      refine bodyPost_ret (v := .tuple #[.agg #[.string ⟨#[101, 115, 99, 97, 112, 101]⟩, .int .u8 0], .int .i64 1]) (by simp [results, Tryd.results22, go_sem, *]) rfl ⟨by rw [← HZ.out]; rfl, (Below.refl _ _).alloc (Nat.le_refl _) _⟩
    rw [if_neg h27] at hZ
    have e27 : ((y : Int) == 27) = false := beq_eq_false_iff_ne.2 (by omega)
    have C := plain_any (s.extract 1 s.size) _ (tabs_on hT hB1) (by rw [ByteArray.size_extract]; omega) (by rw [ByteArray.size_extract]; omega)
    have hpd : (s.extract 1 s.size).data.toList = s.data.toList.drop 1 := by rw [ba_drop]
    rw [hpd] at C
    have hmd := plain_md (s.data.toList.drop 1)
    have hle := plain_le (l := s.data.toList.drop 1) (fun h => by have := congrArg List.length h; rw [List.length_drop, ba_len, List.length_nil] at this; omega)
    rw [List.length_drop, ba_len] at hle
    obtain ⟨⟨⟨nm, md⟩, n⟩, hp⟩ : ∃ y, plainL (s.data.toList.drop 1) = y := ⟨_, rfl⟩
    rw [hp] at C hZ hmd hle
    rw [pV_at] at C
    simp only at hZ hmd hle
    have he := toList_nil nm
    obtain ⟨nb, hnb⟩ : ∃ x, (⟨nm.toArray⟩ : ByteArray) = x := ⟨_, rfl⟩
    rw [hnb] at C he
    have HNB := hid hnb
    have hor : bits .or .u8 (md : Int) 4 = ((md ||| 4 : Nat) : Int) := or_small ⟨md, hmd⟩ ⟨4, by decide⟩
    clear hnb hp hpd
    by_cases hn : n = 0
    · rw [if_pos hn] at hZ
      have n0 : ((n : Int) == 0) = true := beq_iff_eq.2 (by omega)
      have HZ := hid hZ
      clear hZ
      go_enter Tryd.func22, Tryd.ntmps22
      go_wp2_with fail
      with_reducible refine C.mono ?_
      rintro e w2 ⟨rfl, hb2⟩
      obtain ⟨c0, c1, c2, c3⟩ := bx1.below hb2 (by simp)
      have hs2 := hb2.size
      simp only [World.size_alloc] at hs2
      have k1 : w.heap.size < w2.heap.size := by omega
      have hB2 := hB1.trans (hb2.mono hB1.size)
      clear C bx1 hb2 hB1
      go_wp2
      refine bodyPost_ret (v := .tuple #[.agg #[.string { data := #[] }, .int .u8 0], .int .i64 0]) (by simp [results, Tryd.results22, go_sem, *]) rfl ⟨by rw [← HZ.out]; rfl, by (repeat first | with_reducible exact hB2 | refine Below.setCell ?_ (by first | exact Nat.le_refl _ | (simp; omega)) _ | refine Below.alloc ?_ (by simp; omega) _)⟩
    rw [if_neg hn] at hZ
    have n0 : ((n : Int) == 0) = false := beq_eq_false_iff_ne.2 (by omega)
    have hnle : n ≤ 4000000 := by omega
    by_cases hnm : nm = []
    · rw [if_pos hnm] at hZ
      have he2 : (nb.toList == []) = true := by rw [he]; exact decide_eq_true hnm
      have HZ := hid hZ
      clear hZ he
      go_enter Tryd.func22, Tryd.ntmps22
      go_wp2_with fail
      with_reducible refine C.mono ?_
      rintro e w2 ⟨rfl, hb2⟩
      obtain ⟨c0, c1, c2, c3⟩ := bx1.below hb2 (by simp)
      have hs2 := hb2.size
      simp only [World.size_alloc] at hs2
      have k1 : w.heap.size < w2.heap.size := by omega
      have hB2 := hB1.trans (hb2.mono hB1.size)
      clear C bx1 hb2 hB1
      go_wp2
      refine bodyPost_ret (v := .tuple #[.agg #[.string nb, .int .u8 (md : Int)], .int .i64 ((n : Int) + 1)]) (by simp [results, Tryd.results22, go_sem, *]) rfl ⟨by rw [← HZ.out, ← HNB.out]; rfl, by (repeat first | with_reducible exact hB2 | refine Below.setCell ?_ (by first | exact Nat.le_refl _ | (simp; omega)) _ | refine Below.alloc ?_ (by simp; omega) _)⟩
    · rw [if_neg hnm] at hZ
      have he2 : (nb.toList == []) = false := by rw [he]; exact decide_eq_false hnm
      have HZ := hid hZ
      clear hZ he
      go_enter Tryd.func22, Tryd.ntmps22
      go_wp2_with fail
      with_reducible refine C.mono ?_
      rintro e w2 ⟨rfl, hb2⟩
      obtain ⟨c0, c1, c2, c3⟩ := bx1.below hb2 (by simp)
      have hs2 := hb2.size
      simp only [World.size_alloc] at hs2
      have k1 : w.heap.size < w2.heap.size := by omega
      have hB2 := hB1.trans (hb2.mono hB1.size)
      clear C bx1 hb2 hB1
      go_wp2
      refine bodyPost_ret (v := .tuple #[.agg #[.string nb, .int .u8 ((md ||| 4 : Nat) : Int)], .int .i64 ((n : Int) + 1)]) (by simp [results, Tryd.results22, go_sem, *]) rfl ⟨by rw [← HZ.out, ← HNB.out]; rfl, by (repeat first | with_reducible exact hB2 | refine Below.setCell ?_ (by first | exact Nat.le_refl _ | (simp; omega)) _ | refine Below.alloc ?_ (by simp; omega) _)⟩
  · rw [if_pos hx27] at hZ
    have ex : ((x : Int) == 27) = false := beq_eq_false_iff_ne.2 (by omega)
    have C := plain_any s _ (tabs_on hT hB1) h0 hs
    obtain ⟨⟨⟨nm, md⟩, n⟩, hp⟩ : ∃ y, plainL s.data.toList = y := ⟨_, rfl⟩
    rw [hp] at C hZ
    rw [pV_at] at C
    have HZ := hid hZ
    clear hZ hp
    go_enter Tryd.func22, Tryd.ntmps22
    go_wp2_with fail
    with_reducible refine C.mono ?_
    rintro e w2 ⟨rfl, hb2⟩
    obtain ⟨c0, c1, c2, c3⟩ := bx1.below hb2 (by simp)
    have hs2 := hb2.size
    simp only [World.size_alloc] at hs2
    have k1 : w.heap.size < w2.heap.size := by omega
    have hB2 := hB1.trans (hb2.mono hB1.size)
    clear C bx1 hb2 hB1
    go_wp2
    refine bodyPost_ret (v := .tuple #[.agg #[.string ⟨nm.toArray⟩, .int .u8 (md : Int)], .int .i64 (n : Int)]) (by simp [results, Tryd.results22, go_sem, *]) rfl ⟨by rw [← HZ.out]; rfl, by (repeat first | with_reducible exact hB2 | refine Below.setCell ?_ (by first | exact Nat.le_refl _ | (simp; omega)) _ | refine Below.alloc ?_ (by simp; omega) _)⟩
end Go.Proofs.YtddigbhijfpmkaaDoor
