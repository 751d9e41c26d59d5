/- Layer 25: Type, text, seam. -/
import Derived.Test.YtcfgpmmclijonaaDoorEdC
namespace Go.Proofs.YtcfgpmmclijonaaDoor
set_option linter.unusedVariables false
set_option linter.unusedSimpArgs false
set_option maxRecDepth 100000
open Go.RowKit Go.Shelf Go.Lib
set_option maxRecDepth 100000
set_option maxHeartbeats 8000000

section
variable {w : World} {g : Nat} {b : ByteArray} {x y : Nat} {p q : Value} {k m : Nat}
theorem Type_of (h : EdAt w g b x y p q k m) (s : ByteArray) (R : Ending → World → Prop) (v : Int)
    (hc : ∀ w1, Below w.heap.size w w1 → EdAt w1 g b x y p q k m → Calls Tryd.prog 30 #[.pointer (some ⟨g, 0, none⟩), .string s, .int .i64 ((min x y : Nat) : Int), .int .i64 ((max x y : Nat) : Int)] w1 fun e w' => e = .returned (.int .i64 v) ∧ R (.returned (.int .i64 v)) w') :
    Calls Tryd.prog 13 #[.pointer (some ⟨g, 0, none⟩), .string s] w R := by
  have C := is_any h
  have HH := hid h
  obtain ⟨lo, hlo⟩ : ∃ z, min x y = z := ⟨_, rfl⟩
  obtain ⟨hi, hhi⟩ : ∃ z, max x y = z := ⟨_, rfl⟩
  have CS := fun w1 (h1 : EdAt w1 g b x y p q k m) => span_any h1
  rw [hlo, hhi] at CS hc
  have HCS := hid CS
  have HC := hid hc
  clear h CS hlo hhi hc
  go_enter Tryd.func13, Tryd.ntmps13
  go_wp2_with fail
  with_reducible refine C.mono ?_
  rintro e w1 ⟨rfl, hb1⟩
  have h1 := HH.out.on hb1
  have C2 := HCS.out w1 h1
  have H1 := hid h1
  clear C h1
  go_wp2_with fail
  with_reducible refine C2.mono ?_
  rintro e w2 ⟨rfl, hb2⟩
  have C3 := HC.out w2 (hb1.trans (hb2.mono hb1.size)) (H1.out.on hb2)
  clear C2
  go_wp2_with fail
  with_reducible refine C3.mono ?_
  rintro e w3 ⟨rfl, hR⟩
  have HR := hid hR
  clear hR C3
  go_wp2
  exact HR.out
end
theorem ltext_any {w : World} {g : Nat} {b : ByteArray} {x y : Nat} {p q : Value} {k m : Nat} (h : EdAt w g b x y p q k m) : Calls Tryd.prog 10 #[.pointer (some ⟨g, 0, none⟩)] w fun e w' => e = .returned (txV b x y) ∧ Below w.heap.size w w' := by
  have CT := fun w1 (h1 : EdAt w1 g b x y p q k m) => text_any h1
  unfold txV at CT ⊢
  have hB1 := (Below.refl w.heap.size w).alloc (Nat.le_refl _) (.cells #[.string { data := #[] }, .int .i64 0, .int .i64 0] 31)
  have hr : (w.alloc (.cells #[.string { data := #[] }, .int .i64 0, .int .i64 0] 31)).heap[w.heap.size]? = some (.cells #[.string { data := #[] }, .int .i64 0, .int .i64 0] 31 (0, 0)) := World.alloc_heap_new _ _
  have C := CT _ (h.on hB1)
  clear h CT
  go_enter Tryd.func10, Tryd.ntmps10
  go_wp2_with fail
  with_reducible refine C.mono ?_
  rintro e w2 ⟨rfl, hb2⟩
  have hs2 := hb2.size
  simp only [World.size_alloc] at hs2
  have r2 := (hb2.block w.heap.size (by simp)).trans hr
  have hlw : w.heap.size < w2.heap.size := by omega
  have hB2 := hB1.trans (hb2.mono hB1.size)
  have r3 := blk_cell r2 0
  have r4 := blk_cell r2 1
  have r5 := blk_cell r2 2
  have r6 := blk_frozen r2
  clear C hb2 r2 hr
  go_wp2
  refine bodyPost_ret (v := .agg #[.string b, .int .i64 (x : Int), .int .i64 (y : Int)]) (by simp [results, Tryd.results10, go_sem, *]) rfl ⟨rfl, by first | (repeat first | with_reducible exact hB2 | refine Below.setCell ?_ (by first | exact Nat.le_refl _ | (simp; omega)) _ | refine Below.alloc ?_ (by simp; omega) _) | exact (hB2.alloc hB2.size _)⟩
theorem seam_any (s : ByteArray) (a : Int) (w : World) (hs : s.size ≤ 4000000) (h0 : -9223372036854775808 ≤ a) (h1 : a ≤ 9223372036854775807) : Calls Tryd.prog 11 #[.string s, .int .i64 a] w fun e w' => e = .returned (.bool (seamE s.data.toList a)) ∧ Below w.heap.size w w' := by
  unfold seamE
  rw [ba_len]
  by_cases ha : a = 0
  · subst ha
    go_enter Tryd.func11, Tryd.ntmps11
    go_wp2
    go_ret
    exact ⟨rfl, Below.refl _ _⟩
  · have a0 : (a == 0) = false := beq_eq_false_iff_ne.2 ha
    rw [decide_eq_false ha, Bool.false_or]
    by_cases hl : a = (s.size : Int)
    · have a1 : (a == (s.size : Int)) = true := beq_iff_eq.2 hl
      rw [decide_eq_true hl, Bool.true_or]
      subst hl
      have a2 : ¬ s.size = 0 := by omega
      have a3 : (s.size == 0) = false := beq_eq_false_iff_ne.2 a2
      go_enter Tryd.func11, Tryd.ntmps11
      go_wp2
      go_ret
      exact ⟨rfl, Below.refl _ _⟩
    · have a1 : (a == (s.size : Int)) = false := beq_eq_false_iff_ne.2 hl
      rw [decide_eq_false hl, Bool.false_or]
      by_cases hn : a < 0
      · have a2 : decide (a < 0) = true := decide_eq_true hn
        rw [decide_eq_false (by omega : ¬ 0 < a)]
        go_enter Tryd.func11, Tryd.ntmps11
        go_wp2
        go_ret
        exact ⟨rfl, Below.refl _ _⟩
      · obtain ⟨n, rfl⟩ := Int.eq_ofNat_of_zero_le (Int.not_lt.1 hn)
        have a2 : decide ((n : Int) < 0) = false := decide_eq_false hn
        by_cases hg : s.size < n
        · have a3 : decide ((s.size : Int) < (n : Int)) = true := decide_eq_true (by omega)
          have a4 : (s.size : Int) < (n : Int) := by omega
          rw [decide_eq_false (by omega : ¬ (n : Int) < (s.size : Int)), Bool.and_false, Bool.false_and]
          go_enter Tryd.func11, Tryd.ntmps11
          go_wp2
          go_ret
          exact ⟨rfl, Below.refl _ _⟩
        · have a3 : decide ((s.size : Int) < (n : Int)) = false := decide_eq_false (by omega)
          have a4 : ¬ (s.size : Int) < (n : Int) := by omega
          rw [decide_eq_true (by omega : (0 : Int) < (n : Int)), decide_eq_true (by omega : (n : Int) < (s.size : Int)), Bool.and_self, Bool.true_and, show ((n : Int)).toNat = n by omega]
          have C := small (Back_any s (n : Int) h0 h1 w (by omega)) hs
          obtain ⟨kk, e1, e2, e3⟩ := back_next (l := s.data.toList) (a := n) (by omega) (by rw [ba_len]; omega)
          rw [e1] at C
          have CN := fun w1 => small (Next_any s (kk : Int) w1 (by omega)) hs
          rw [e3] at CN
          unfold ansV at C CN
          simp only at C CN
          generalize settledE s.data.toList n = z at *
          have hzq : ((z : Int) == (n : Int)) = decide ((z : Int) = (n : Int)) := by
            by_cases h : (z : Int) = (n : Int)
            · rw [decide_eq_true h]; exact beq_iff_eq.2 h
            · rw [decide_eq_false h]; exact beq_eq_false_iff_ne.2 h
          rw [← hzq]
          obtain ⟨Z, hZ⟩ : ∃ y, ((z : Int) == (n : Int)) = y := ⟨_, rfl⟩
          rw [hZ]
          clear e1 e3 hzq
          go_enter Tryd.func11, Tryd.ntmps11
          go_wp2_with fail
          with_reducible refine C.mono ?_
          rintro e w1 ⟨rfl, hb1⟩
          have C2 := CN w1
          clear C CN
          go_wp2_with fail
          with_reducible refine C2.mono ?_
          rintro e w2 ⟨rfl, hb2⟩
          go_wp2
          go_ret
          exact ⟨rfl, hb1.trans (hb2.mono hb1.size)⟩
end Go.Proofs.YtcfgpmmclijonaaDoor
