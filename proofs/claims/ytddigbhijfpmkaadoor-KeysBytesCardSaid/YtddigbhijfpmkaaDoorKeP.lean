/- Layer 21: plain of the program. -/
import Derived.Test.YtddigbhijfpmkaaDoorKeO
namespace Go.Proofs.YtddigbhijfpmkaaDoor
set_option linter.unusedVariables false
set_option linter.unusedSimpArgs false
set_option maxRecDepth 100000
open Go.RowKit Go.Shelf Go.Lib
set_option maxRecDepth 100000
set_option maxHeartbeats 8000000

def pV (Z : Ky × Nat) : Value := .tuple #[kyV Z.1, .int .i64 (Z.2 : Int)]
theorem box_new (w : World) (nm : ByteArray) (md : Nat) : Box2 (w.alloc (.cells #[.string nm, .int .u8 (md : Int)] 31)) w.heap.size nm md := Box2.of_heap (World.alloc_heap_new _ _)
theorem optV_some (k : Ky) : optV (some k) = .tuple #[.agg #[.string ⟨k.nm.toArray⟩, .int .u8 (k.md : Int)], .bool true] := rfl
theorem optV_none : optV none = .tuple #[.agg #[.string { data := #[] }, .int .u8 0], .bool false] := rfl
theorem plain_any (s : ByteArray) (w : World) (hT : Tabs w) (h0 : 0 < s.size) (hs : s.size ≤ 4000000) : Calls Tryd.prog 33 #[.string s] w fun e w' => e = .returned (pV (plainL s.data.toList)) ∧ Below w.heap.size w w' := by
  obtain ⟨Z, hZ⟩ : ∃ x, pV (plainL s.data.toList) = x := ⟨_, rfl⟩
  rw [hZ]
  have hh : s.data.toList.getD 0 0 = s[0] := by
    rw [List.getD_eq_getElem?_getD, List.getElem?_eq_getElem (by rw [ba_len]; exact h0)]
    rfl
  have hne : s.data.toList ≠ [] := fun h => by have := ba_len s; rw [h] at this; simp at this; omega
  unfold plainL at hZ
  rw [hh] at hZ
  have hB1 := (Below.refl w.heap.size w).alloc (Nat.le_refl _) (.cells #[.string { data := #[] }, .int .u8 0] 31)
  have bx1 : Box2 (w.alloc (.cells #[.string { data := #[] }, .int .u8 0] 31)) w.heap.size { data := #[] } 0 := box_new w _ 0
  have CS := single_any s[0] (w.alloc (.cells #[.string { data := #[] }, .int .u8 0] 31))
  have HT := hid hT
  have HNE := hid hne
  clear hT hne hh
  generalize singleL s[0].toNat = o at *
  cases o with
  | some k =>
    obtain ⟨nm, md⟩ := k
    rw [optV_some] at CS
    have HZ : Hid (.tuple #[.agg #[.string ⟨nm.toArray⟩, .int .u8 (md : Int)], .int .i64 1] = Z) := hid hZ
    clear hZ
    go_enter Tryd.func33, Tryd.ntmps33
    go_wp2_with fail
    with_reducible refine CS.mono ?_
    rintro e w2 ⟨rfl, hb2⟩
    have bx := bx1.below hb2 (by simp)
    have hs2 := hb2.size
    simp only [World.size_alloc] at hs2
    have l1 : w.heap.size < w2.heap.size := by omega
    have l2 : w.heap.size < w2.heap.size + 1 := by omega
    have hB2 := hB1.trans (hb2.mono hB1.size)
    obtain ⟨c0, c1, c2, c3⟩ := bx
    clear CS bx1 hb2 hB1
    go_wp2
    refine bodyPost_ret (v := .tuple #[.agg #[.string ⟨nm.toArray⟩, .int .u8 (md : Int)], .int .i64 1]) (by simp [results, Tryd.results33, go_sem, *]) rfl ⟨by rw [HZ.out], by (repeat first | with_reducible exact hB2 | refine Below.setCell ?_ (by first | exact Nat.le_refl _ | (simp; omega)) _ | refine Below.alloc ?_ (by simp; omega) _)⟩
  | none =>
    rw [optV_none] at CS
    have HZ := hid hZ
    clear hZ
    have CD := fun w1 (hb : Below w.heap.size w w1) => dec_any s w1 (tabs_on HT.out hb)
    have CF := fun w1 (hb : Below w.heap.size w w1) => full_any s w1 (tabs_on HT.out hb) hs
    unfold rnG wdG at CD
    simp only [if_neg HNE.out] at CD
    have CX := fun w1 => Width_any (rn s.data.toList : Int) w1
    have hwl := wd_le s.data.toList HNE.out
    rw [ba_len] at hwl
    have hrl := rn_le s.data.toList
    have hw1 := wd_pos s.data.toList
    have hrb := rn_brk (l := s.data.toList)
    have hkb := brk_wd (l := s.data.toList)
    have hkr := brk_rn (l := s.data.toList)
    have htk := ba_take s (wd s.data.toList)
    have HZ2 := HZ.out
    by_cases hk : Brk s.data.toList
    · have hr := hkr hk
      have hn := hkb hk
      rw [hr, hn] at CD
      simp only [if_pos hk] at HZ2
      clear hrb hkb hkr hk hr hn CX hwl hrl hw1 htk HZ HT HNE
      generalize fullB s.data.toList = fb at *
      go_enter Tryd.func33, Tryd.ntmps33
      go_wp2_with fail
      with_reducible refine CS.mono ?_
      rintro e w2 ⟨rfl, hb2⟩
      have bx2 := bx1.below hb2 (by simp)
      have hs2 := hb2.size
      simp only [World.size_alloc] at hs2
      have l1 : w.heap.size < w2.heap.size := by omega
      have l2 : w.heap.size < w2.heap.size + 1 := by omega
      have hB2 := (hB1.trans (hb2.mono hB1.size)).alloc (by omega) (.cells #[.string { data := #[] }, .int .u8 0] 31)
      have D := CD _ hB2
      have bx3 := bx2.below ((Below.refl w2.heap.size w2).alloc (Nat.le_refl _) (.cells #[.string { data := #[] }, .int .u8 0] 31)) l1
      clear CS bx1 bx2 hb2 hB1 CD
      go_wp2_with fail
      with_reducible refine D.mono ?_
      rintro e w3 ⟨rfl, hb3⟩
      have hB3 := hB2.trans (hb3.mono hB2.size)
      have bx4 := bx3.below hb3 (by simpa using l2)
      have F := CF w3 hB3
      have hs3 := hb3.size
      simp only [World.size_alloc] at hs3
      clear D CF bx3 hb3 hB2
      go_wp2_with fail
      with_reducible refine F.mono ?_
      rintro e w4 ⟨rfl, hb4⟩
      have hB4 := hB3.trans (hb4.mono hB3.size)
      obtain ⟨c0, c1, c2, c3⟩ := bx4.below hb4 (by omega)
      have hs4 := hb4.size
      have l4 : w.heap.size < w4.heap.size := by omega
      clear bx4 hb4 hB3 F
      cases fb with
      | true =>
        have HZ3 := hid HZ2
        clear HZ2
        go_wp2
        refine bodyPost_ret (v := .tuple #[.agg #[.string { data := #[] }, .int .u8 0], .int .i64 1]) (by simp [results, Tryd.results33, go_sem, *]) rfl ⟨by rw [← HZ3.out]; rfl, by (repeat first | with_reducible exact hB4 | refine Below.setCell ?_ (by first | exact Nat.le_refl _ | (simp; omega)) _ | refine Below.alloc ?_ (by simp; omega) _)⟩
      | false =>
        have HZ3 := hid HZ2
        clear HZ2
        go_wp2
        refine bodyPost_ret (v := .tuple #[.agg #[.string { data := #[] }, .int .u8 0], .int .i64 0]) (by simp [results, Tryd.results33, go_sem, *]) rfl ⟨by rw [← HZ3.out]; rfl, by (repeat first | with_reducible exact hB4 | refine Below.setCell ?_ (by first | exact Nat.le_refl _ | (simp; omega)) _ | refine Below.alloc ?_ (by simp; omega) _)⟩
    · have hrd : (((rn s.data.toList : Int) == 65533) = true ∧ (((wd s.data.toList : Nat) : Int) == 1) = false) ∨ ((rn s.data.toList : Int) == 65533) = false := by
        by_cases h : rn s.data.toList = 65533
        · exact .inl ⟨beq_iff_eq.2 (by omega), beq_eq_false_iff_ne.2 (by have := hrb hk h; omega)⟩
        · exact .inr (beq_eq_false_iff_ne.2 (by omega))
      simp only [if_neg hk] at HZ2
      clear hrb hkb hkr hk hrl hw1 HZ HT HNE CF
      generalize wid (rn s.data.toList : Int) = wi at *
      generalize rn s.data.toList = r at *
      generalize wd s.data.toList = n at *
      have hni : (n : Int) ≤ (s.size : Int) := by omega
      have HZ3 := hid HZ2
      have HTK := hid htk
      clear HZ2 htk
      go_enter Tryd.func33, Tryd.ntmps33
      go_wp2_with fail
      with_reducible refine CS.mono ?_
      rintro e w2 ⟨rfl, hb2⟩
      have bx2 := bx1.below hb2 (by simp)
      have hs2 := hb2.size
      simp only [World.size_alloc] at hs2
      have l1 : w.heap.size < w2.heap.size := by omega
      have l2 : w.heap.size < w2.heap.size + 1 := by omega
      have hB2 := (hB1.trans (hb2.mono hB1.size)).alloc (by omega) (.cells #[.string { data := #[] }, .int .u8 0] 31)
      have D := CD _ hB2
      have bx3 := bx2.below ((Below.refl w2.heap.size w2).alloc (Nat.le_refl _) (.cells #[.string { data := #[] }, .int .u8 0] 31)) l1
      clear CS bx1 bx2 hb2 hB1 CD
      go_wp2_with fail
      with_reducible refine D.mono ?_
      rintro e w3 ⟨rfl, hb3⟩
      have hB3 := hB2.trans (hb3.mono hB2.size)
      have bx4 := bx3.below hb3 (by simpa using l2)
      have F := CX w3
      have hs3 := hb3.size
      simp only [World.size_alloc] at hs3
      clear D CX bx3 hb3 hB2
      rcases hrd with ⟨f1, f2⟩ | f1
      all_goals
        go_wp2_with fail
        with_reducible refine F.mono ?_
        rintro e w4 ⟨rfl, hb4⟩
        have hB4 := hB3.trans (hb4.mono hB3.size)
        obtain ⟨c0, c1, c2, c3⟩ := bx4.below hb4 (by omega)
        have hs4 := hb4.size
        have l4 : w.heap.size < w4.heap.size := by omega
        clear bx4 hb4 hB3 F
        by_cases hwi : wi = 0
        · have g1 : ((wi : Int) == 0) = true := beq_iff_eq.2 (by omega)
          have hz := HZ3.out
          rw [if_pos hwi] at hz
          have HZ4 := hid hz
          clear hz hwi
          go_wp2
          refine bodyPost_ret (v := .tuple #[.agg #[.string { data := #[] }, .int .u8 0], .int .i64 (n : Int)]) (by simp [results, Tryd.results33, go_sem, *]) rfl ⟨by rw [← HZ4.out]; rfl, by (repeat first | with_reducible exact hB4 | refine Below.setCell ?_ (by first | exact Nat.le_refl _ | (simp; omega)) _ | refine Below.alloc ?_ (by simp; omega) _)⟩
        · have g1 : ((wi : Int) == 0) = false := beq_eq_false_iff_ne.2 (by omega)
          have hz := HZ3.out
          rw [if_neg hwi] at hz
          have HZ4 := hid hz
          clear hz hwi
          go_wp2
          refine bodyPost_ret (v := .tuple #[.agg #[.string (s.extract 0 n), .int .u8 0], .int .i64 (n : Int)]) (by simp [results, Tryd.results33, go_sem, *]) rfl ⟨by rw [← HZ4.out, HTK.out]; rfl, by (repeat first | with_reducible exact hB4 | refine Below.setCell ?_ (by first | exact Nat.le_refl _ | (simp; omega)) _ | refine Below.alloc ?_ (by simp; omega) _)⟩
end Go.Proofs.YtddigbhijfpmkaaDoor
