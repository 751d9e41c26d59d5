/- Layer 25: Chosen, settled, to, Move, Depth. -/
import Derived.Test.YtcfgpmmclijonaaDoorEdA
namespace Go.Proofs.YtcfgpmmclijonaaDoor
set_option linter.unusedVariables false
set_option linter.unusedSimpArgs false
set_option maxRecDepth 100000
open Go.RowKit Go.Shelf Go.Lib
set_option maxRecDepth 100000
set_option maxHeartbeats 4000000

theorem grown_below {w w1 w2 : World} {ob : Option Nat} (hb : Below w.heap.size w w1) (hg : w1.grownBy w2 ob) : w.grownBy w2 ob :=
  ⟨hg.os.trans hb.os, hg.tape.trans hb.tape, hg.output.trans hb.output, Nat.le_trans hb.size hg.size, fun k hk hne => by rw [hg.block k (by have := hb.size; omega) hne, hb.block k hk]⟩
theorem grown_then {w w1 w2 : World} {ob : Option Nat} (hg : w.grownBy w1 ob) (hb : Below w1.heap.size w1 w2) : w.grownBy w2 ob :=
  ⟨hb.os.trans hg.os, hb.tape.trans hg.tape, hb.output.trans hg.output, Nat.le_trans hg.size hb.size, fun k hk hne => by rw [hb.block k (by have := hg.size; omega), hg.block k hk hne]⟩
theorem grown_two {w w1 w2 : World} {ob : Option Nat} (hg : w.grownBy w1 ob) (hb : w1.grownBy w2 ob) : w.grownBy w2 ob :=
  ⟨hb.os.trans hg.os, hb.tape.trans hg.tape, hb.output.trans hg.output, Nat.le_trans hg.size hb.size, fun k hk hne => by rw [hb.block k (by have := hg.size; omega) hne, hg.block k hk hne]⟩
theorem grown_cell {w w1 : World} {g j : Nat} {u : Value} (h : w.grownBy w1 (some g)) : w.grownBy (w1.setCell ⟨g, j, none⟩ u) (some g) := by
  refine ⟨h.os, h.tape, h.output, by simpa using h.size, fun k hk hne => ?_⟩
  rw [heap_setCell_other _ _ _ _ (fun e => hne (by rw [e]))]
  exact h.block k hk hne
section
variable {w : World} {g : Nat} {b : ByteArray} {x y : Nat} {p q : Value} {k m : Nat}
theorem Chosen_any (h : EdAt w g b x y p q k m) (hx : x ≤ b.size) (hy : y ≤ b.size) : Calls Tryd.prog 12 #[.pointer (some ⟨g, 0, none⟩)] w fun e w' => e = .returned (.tuple #[.string (b.extract (min x y) (max x y)), .int .i64 0]) ∧ Below w.heap.size w w' := by
  have C := is_any h
  have HH := hid h
  obtain ⟨lo, hlo⟩ : ∃ z, min x y = z := ⟨_, rfl⟩
  obtain ⟨hi, hhi⟩ : ∃ z, max x y = z := ⟨_, rfl⟩
  have n1 : lo ≤ hi := by omega
  have n2 : hi ≤ b.size := by omega
  have n3 : (lo : Int) ≤ (hi : Int) := by omega
  have n4 : (hi : Int) ≤ (b.size : Int) := by omega
  have CS := fun w1 (h1 : EdAt w1 g b x y p q k m) => span_any h1
  rw [hlo, hhi] at CS ⊢
  have HCS := hid CS
  clear h CS hlo hhi
  go_enter Tryd.func12, Tryd.ntmps12
  go_wp2_with fail
  with_reducible refine C.mono ?_
  rintro e w1 ⟨rfl, hb1⟩
  have h1 := HH.out.on hb1
  have C2 := HCS.out w1 h1
  have H1 := hid h1
  clear C h1
  go_wp2_with fail
  with_reducible refine C2.mono ?_
  rintro e w2 ⟨rfl, hb2⟩
  have h2 := H1.out.on hb2
  obtain ⟨c0, c1, c2, c3, c4, c5, c6, c7⟩ := h2.cells
  have hl := h2.lt
  clear C2 h2
  go_wp2
  exact bodyPost_ret (by simp [results, Tryd.results12, go_sem, *]) rfl ⟨rfl, hb1.trans (hb2.mono hb1.size)⟩
theorem settled_any (s : ByteArray) (a : Nat) (w : World) (hs : s.size ≤ 4000000) (ha : a ≤ s.size) : Calls Tryd.prog 26 #[.string s, .int .i64 (a : Int)] w fun e w' => e = .returned (.int .i64 (settledE s.data.toList a : Int)) ∧ Below w.heap.size w w' := by
  have C := small (Back_any s (a : Int) (by omega) (by omega) w (by omega)) hs
  by_cases h0 : a = 0
  · subst h0
    rw [settled_zero]
    rw [show ((0 : Nat) : Int) = 0 from rfl, back_zero] at C
    unfold ansV at C
    simp only at C
    go_enter Tryd.func26, Tryd.ntmps26
    go_wp2_with fail
    with_reducible refine C.mono ?_
    rintro e w1 ⟨rfl, hb1⟩
    go_wp2
    go_ret
    exact ⟨rfl, hb1⟩
  · obtain ⟨kk, e1, e2, e3⟩ := back_next (l := s.data.toList) (a := a) (by omega) (by rw [ba_len]; exact ha)
    rw [e1] at C
    have CN := fun w1 => small (Next_any s (kk : Int) w1 (by omega)) hs
    rw [e3] at CN
    unfold ansV at C CN
    simp only at C CN
    generalize settledE s.data.toList a = z at *
    clear e1 e3
    go_enter Tryd.func26, Tryd.ntmps26
    go_wp2_with fail
    with_reducible refine C.mono ?_
    rintro e w1 ⟨rfl, hb1⟩
    have C2 := CN w1
    clear C CN
    go_wp2_with fail
    with_reducible refine C2.mono ?_
    rintro e w2 ⟨rfl, hb2⟩
    go_wp2
    go_ret
    exact ⟨rfl, hb1.trans (hb2.mono hb1.size)⟩
theorem to_any (h : EdAt w g b x y p q k m) (a : Nat) (keep : Bool) : Calls Tryd.prog 25 #[.pointer (some ⟨g, 0, none⟩), .int .i64 (a : Int), .bool keep] w fun e w' => e = .returned (.tuple #[]) ∧ EdAt w' g b a (if keep then y else a) p q k m ∧ w.grownBy w' (some g) := by
  obtain ⟨c0, c1, c2, c3, c4, c5, c6, c7⟩ := h.cells
  have f2 := h.free 2
  have f3 := h.free 3
  have hl := h.lt
  have hA : EdAt (w.setCell ⟨g, 2, none⟩ (.int .i64 (a : Int))) g b a y p q k m := store_in h
  have hB : EdAt ((w.setCell ⟨g, 2, none⟩ (.int .i64 (a : Int))).setCell ⟨g, 3, none⟩ (.int .i64 (a : Int))) g b a a p q k m := store_in hA
  have HA := hid hA
  have HB := hid hB
  clear h hA hB
  cases keep with
  | true =>
    go_enter Tryd.func25, Tryd.ntmps25
    go_wp2
    go_end0
    exact ⟨rfl, HA.out, grown_cell (World.grownBy.refl _ _)⟩
  | false =>
    go_enter Tryd.func25, Tryd.ntmps25
    go_wp2
    go_end0
    exact ⟨rfl, HB.out, grown_cell (grown_cell (World.grownBy.refl _ _))⟩
theorem Move_any (h : EdAt w g b x y p q k m) (hb : b.size ≤ 4000000) (a : Nat) (ha : a ≤ b.size) (keep : Bool) : Calls Tryd.prog 9 #[.pointer (some ⟨g, 0, none⟩), .int .i64 (a : Int), .bool keep] w fun e w' => e = .returned (.int .i64 0) ∧
    EdAt w' g b (settledE b.data.toList a) (if keep then y else settledE b.data.toList a) p q k m ∧ w.grownBy w' (some g) := by
  have C := is_any h
  have HH := hid h
  have CS := fun w1 => settled_any b a w1 hb ha
  generalize settledE b.data.toList a = z at *
  have CT := fun w1 (h1 : EdAt w1 g b x y p q k m) => to_any h1 z keep
  obtain ⟨Y, hY⟩ : ∃ Y, (if keep = true then y else z) = Y := ⟨_, rfl⟩
  rw [hY] at CT ⊢
  clear hY
  have HCT := hid CT
  have a1 : decide ((a : Int) < 0) = false := decide_eq_false (by omega)
  have a2 : decide ((b.size : Int) < (a : Int)) = false := decide_eq_false (by omega)
  have a3 : ¬ b.size < a := by omega
  have a4 : decide (b.size < a) = false := decide_eq_false a3
  clear h CT
  go_enter Tryd.func9, Tryd.ntmps9
  go_wp2_with fail
  with_reducible refine C.mono ?_
  rintro e w1 ⟨rfl, hb1⟩
  have h1 := HH.out.on hb1
  obtain ⟨c0, c1, c2, c3, c4, c5, c6, c7⟩ := h1.cells
  have hl := h1.lt
  have H1 := hid h1
  have C2 := CS w1
  clear C h1 CS
  go_wp2_with fail
  with_reducible refine C2.mono ?_
  rintro e w2 ⟨rfl, hb2⟩
  have C3 := HCT.out w2 (H1.out.on hb2)
  clear C2
  go_wp2_with fail
  with_reducible refine C3.mono ?_
  rintro e w3 ⟨rfl, h3, hg3⟩
  have H3 := hid h3
  have HG := hid hg3
  clear C3 h3 hg3 c0 c1 c2 c3 c4 c5 c6 c7
  go_wp2
  go_ret
  exact ⟨rfl, H3.out, grown_below (hb1.trans (hb2.mono hb1.size)) HG.out⟩
end
end Go.Proofs.YtcfgpmmclijonaaDoor
