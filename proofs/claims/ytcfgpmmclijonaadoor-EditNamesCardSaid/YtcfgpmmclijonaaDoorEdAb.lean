/- Layer 25: an editor in memory; New, is, Text, span, Chosen, Depth. -/
import Derived.Test.YtcfgpmmclijonaaDoorEdPlain
import Derived.Test.YtcfgpmmclijonaaDoorKeG
import Derived.Test.YtcfgpmmclijonaaDoorRuI2
namespace Go.Proofs.YtcfgpmmclijonaaDoor
set_option linter.unusedVariables false
set_option linter.unusedSimpArgs false
set_option maxRecDepth 100000
open Go.RowKit Go.Shelf Go.Lib
set_option maxRecDepth 100000
set_option maxHeartbeats 4000000

def edC (b : ByteArray) (x y : Nat) (p q : Value) (k m : Nat) : Array Value := #[.bool true, .string b, .int .i64 (x : Int), .int .i64 (y : Int), p, q, .int .i64 (k : Int), .int .i64 (m : Int)]
/-- An editor. -/
def EdAt (w : World) (g : Nat) (b : ByteArray) (x y : Nat) (p q : Value) (k m : Nat) : Prop := w.heap[g]? = some (.cells (edC b x y p q k m) 56 (0, 0))
section
variable {w w' : World} {g : Nat} {b : ByteArray} {x y : Nat} {p q : Value} {k m : Nat}
theorem EdAt.lt (h : EdAt w g b x y p q k m) : g < w.heap.size := lt_of_block h
theorem EdAt.on (h : EdAt w g b x y p q k m) (hb : Below w.heap.size w w') : EdAt w' g b x y p q k m := by
  unfold EdAt
  rw [hb.block _ h.lt]
  exact h
theorem EdAt.cells (h : EdAt w g b x y p q k m) : w.cell? ⟨g, 0, none⟩ = some (.bool true) ∧ w.cell? ⟨g, 1, none⟩ = some (.string b) ∧ w.cell? ⟨g, 2, none⟩ = some (.int .i64 (x : Int)) ∧ w.cell? ⟨g, 3, none⟩ = some (.int .i64 (y : Int)) ∧
    w.cell? ⟨g, 4, none⟩ = some p ∧ w.cell? ⟨g, 5, none⟩ = some q ∧ w.cell? ⟨g, 6, none⟩ = some (.int .i64 (k : Int)) ∧ w.cell? ⟨g, 7, none⟩ = some (.int .i64 (m : Int)) :=
  ⟨by rw [blk_cell h]; rfl, by rw [blk_cell h]; rfl, by rw [blk_cell h]; rfl, by rw [blk_cell h]; rfl, by rw [blk_cell h]; rfl, by rw [blk_cell h]; rfl, by rw [blk_cell h]; rfl, by rw [blk_cell h]; rfl⟩
theorem EdAt.free (h : EdAt w g b x y p q k m) (i : Nat) : w.frozen? ⟨g, i, none⟩ = false := blk_frozen h i
end
theorem New_any (s : ByteArray) (w : World) (hs : s.size ≤ 65536) : Calls Tryd.prog 7 #[.string s] w fun e w' => ∃ g, w.heap.size ≤ g ∧ e = .returned (.tuple #[.pointer (some ⟨g, 0, none⟩), .int .i64 0]) ∧ EdAt w' g s s.size s.size (.pointer none) (.pointer none) 0 0 ∧ Below w.heap.size w w' := by
  have h1 : ¬ ((65536 : Int) < (s.size : Int)) := by omega
  have h2 : decide ((65536 : Int) < (s.size : Int)) = false := decide_eq_false h1
  go_enter Tryd.func7, Tryd.ntmps7
  go_wp2
  refine bodyPost_ret (v := .tuple #[.pointer (some ⟨w.heap.size, 0, none⟩), .int .i64 0]) (by simp [results, Tryd.results7, go_sem, *]) rfl ⟨w.heap.size, Nat.le_refl _, rfl, World.alloc_heap_new _ _, (Below.refl _ _).alloc (Nat.le_refl _) _⟩
theorem New_none (s : ByteArray) (w : World) (hs : 65536 < s.size) : Calls Tryd.prog 7 #[.string s] w fun e w' => e = .returned (.tuple #[.pointer none, .int .i64 3]) ∧ Below w.heap.size w w' := by
  have h1 : (65536 : Int) < (s.size : Int) := by omega
  have h2 : decide ((65536 : Int) < (s.size : Int)) = true := decide_eq_true h1
  go_enter Tryd.func7, Tryd.ntmps7
  go_wp2
  exact bodyPost_ret (by simp [results, Tryd.results7, go_sem, *]) rfl ⟨rfl, Below.refl _ _⟩
theorem is_any {w : World} {g : Nat} {b : ByteArray} {x y : Nat} {p q : Value} {k m : Nat} (h : EdAt w g b x y p q k m) : Calls Tryd.prog 24 #[.pointer (some ⟨g, 0, none⟩)] w fun e w' => e = .returned (.int .i64 0) ∧ Below w.heap.size w w' := by
  obtain ⟨c0, c1, c2, c3, c4, c5, c6, c7⟩ := h.cells
  have hl := h.lt
  clear h
  go_enter Tryd.func24, Tryd.ntmps24
  go_wp2
  go_ret
  exact ⟨rfl, Below.refl _ _⟩
def txV (b : ByteArray) (x y : Nat) : Value := .agg #[.string b, .int .i64 (x : Int), .int .i64 (y : Int)]
section
variable {w : World} {g : Nat} {b : ByteArray} {x y : Nat} {p q : Value} {k m : Nat}
theorem text_any (h : EdAt w g b x y p q k m) : Calls Tryd.prog 20 #[.pointer (some ⟨g, 0, none⟩)] w fun e w' => e = .returned (.tuple #[txV b x y, .int .i64 0]) ∧ Below w.heap.size w w' := by
  have hB1 := (Below.refl w.heap.size w).alloc (Nat.le_refl _) (.cells #[.string { data := #[] }, .int .i64 0, .int .i64 0] 31)
  have hr : (w.alloc (.cells #[.string { data := #[] }, .int .i64 0, .int .i64 0] 31)).heap[w.heap.size]? = some (.cells #[.string { data := #[] }, .int .i64 0, .int .i64 0] 31 (0, 0)) := World.alloc_heap_new _ _
  have h1 := h.on hB1
  have C := is_any h1
  have HH := hid h1
  clear h h1
  unfold txV
  go_enter Tryd.func20, Tryd.ntmps20
  go_wp2_with fail
  with_reducible refine C.mono ?_
  rintro e w2 ⟨rfl, hb2⟩
  have h2 := HH.out.on hb2
  obtain ⟨c0, c1, c2, c3, c4, c5, c6, c7⟩ := h2.cells
  have hl := h2.lt
  have hs2 := hb2.size
  simp only [World.size_alloc] at hs2
  have r2 := (hb2.block w.heap.size (by simp)).trans hr
  have r3 := blk_cell r2 0
  have r4 := blk_cell r2 1
  have r5 := blk_cell r2 2
  have r6 := blk_frozen r2
  have hlw : w.heap.size < w2.heap.size := by omega
  have hB2 := hB1.trans (hb2.mono hB1.size)
  clear C h2 hb2 r2 hr
  go_wp2
  refine bodyPost_ret (v := .tuple #[.agg #[.string b, .int .i64 (x : Int), .int .i64 (y : Int)], .int .i64 0]) (by simp [results, Tryd.results20, go_sem, *]) rfl ⟨rfl, by (repeat first | with_reducible exact hB2 | refine Below.setCell ?_ (by first | exact Nat.le_refl _ | (simp; omega)) _ | refine Below.alloc ?_ (by simp; omega) _)⟩
theorem span_any (h : EdAt w g b x y p q k m) : Calls Tryd.prog 29 #[.pointer (some ⟨g, 0, none⟩)] w fun e w' => e = .returned (.tuple #[.int .i64 ((min x y : Nat) : Int), .int .i64 ((max x y : Nat) : Int)]) ∧ Below w.heap.size w w' := by
  obtain ⟨c0, c1, c2, c3, c4, c5, c6, c7⟩ := h.cells
  have hl := h.lt
  obtain ⟨lo, hlo⟩ : ∃ z, min x y = z := ⟨_, rfl⟩
  obtain ⟨hi, hhi⟩ : ∃ z, max x y = z := ⟨_, rfl⟩
  rw [hlo, hhi]
  have n1 : min (x : Int) (y : Int) = (lo : Int) := by omega
  have n2 : max (x : Int) (y : Int) = (hi : Int) := by omega
  clear h hlo hhi
  have hlw : w.heap.size < w.heap.size + 1 := by omega
  have hB1 := (Below.refl w.heap.size w).alloc (Nat.le_refl _) (.cells #[.int .i64 (x : Int), .int .i64 (y : Int)] 29)
  have hs1 : (w.alloc (.cells #[.int .i64 (x : Int), .int .i64 (y : Int)] 29)).heap.size = w.heap.size + 1 := World.size_alloc _ _
  have hr : (w.alloc (.cells #[.int .i64 (x : Int), .int .i64 (y : Int)] 29)).heap[w.heap.size]? = some (.cells #[.int .i64 (x : Int), .int .i64 (y : Int)] 29 (0, 0)) := World.alloc_heap_new _ _
  have r0 := blk_cell hr 0
  have r1 := blk_cell hr 1
  go_enter Tryd.func29, Tryd.ntmps29
  go_wp2
  clear c0 c1 c2 c3 c4 c5 c6 c7
  generalize w.alloc (.cells #[.int .i64 (x : Int), .int .i64 (y : Int)] 29) = w1 at *
  refine region_ext mixed (by kernel_rfl) ?_
  (repeat (go_big_quiet_step (fail)))
  refine wpQuiet_nil ?_
  intro w2 hb2
  go_wp2
  exact bodyPost_ret (by simp [results, Tryd.results29, go_sem, *]) rfl ⟨rfl, hB1.trans (hb2.mono hB1.size)⟩
end
end Go.Proofs.YtcfgpmmclijonaaDoor

/- Layer 25: Chosen, settled, to, Move, Depth. -/
namespace Go.Proofs.YtcfgpmmclijonaaDoor
set_option linter.unusedVariables false
set_option linter.unusedSimpArgs false
set_option maxRecDepth 100000
open Go.RowKit Go.Shelf Go.Lib
set_option maxRecDepth 100000
set_option maxHeartbeats 4000000

theorem grown_below {w w1 w2 : World} {ob : Option Nat} (hb : Below w.heap.size w w1) (hg : w1.grownBy w2 ob) : w.grownBy w2 ob :=
  ⟨hg.os.trans hb.os, hg.tape.trans hb.tape, hg.output.trans hb.output, Nat.le_trans hb.size hg.size, fun k hk hne => by rw [hg.block k (by have := hb.size; omega) hne, hb.block k hk]⟩
theorem grown_then {w w1 w2 : World} {ob : Option Nat} (hg : w.grownBy w1 ob) (hb : Below w1.heap.size w1 w2) : w.grownBy w2 ob :=
  ⟨hb.os.trans hg.os, hb.tape.trans hg.tape, hb.output.trans hg.output, Nat.le_trans hg.size hb.size, fun k hk hne => by rw [hb.block k (by have := hg.size; omega), hg.block k hk hne]⟩
theorem grown_two {w w1 w2 : World} {ob : Option Nat} (hg : w.grownBy w1 ob) (hb : w1.grownBy w2 ob) : w.grownBy w2 ob :=
  ⟨hb.os.trans hg.os, hb.tape.trans hg.tape, hb.output.trans hg.output, Nat.le_trans hg.size hb.size, fun k hk hne => by rw [hb.block k (by have := hg.size; omega) hne, hg.block k hk hne]⟩
theorem grown_cell {w w1 : World} {g j : Nat} {u : Value} (h : w.grownBy w1 (some g)) : w.grownBy (w1.setCell ⟨g, j, none⟩ u) (some g) := by
  refine ⟨h.os, h.tape, h.output, by simpa using h.size, fun k hk hne => ?_⟩
  rw [heap_setCell_other _ _ _ _ (fun e => hne (by rw [e]))]
  exact h.block k hk hne
section
variable {w : World} {g : Nat} {b : ByteArray} {x y : Nat} {p q : Value} {k m : Nat}
theorem Chosen_any (h : EdAt w g b x y p q k m) (hx : x ≤ b.size) (hy : y ≤ b.size) : Calls Tryd.prog 12 #[.pointer (some ⟨g, 0, none⟩)] w fun e w' => e = .returned (.tuple #[.string (b.extract (min x y) (max x y)), .int .i64 0]) ∧ Below w.heap.size w w' := by
  have C := is_any h
  have HH := hid h
  obtain ⟨lo, hlo⟩ : ∃ z, min x y = z := ⟨_, rfl⟩
  obtain ⟨hi, hhi⟩ : ∃ z, max x y = z := ⟨_, rfl⟩
  have n1 : lo ≤ hi := by omega
  have n2 : hi ≤ b.size := by omega
  have n3 : (lo : Int) ≤ (hi : Int) := by omega
  have n4 : (hi : Int) ≤ (b.size : Int) := by omega
  have CS := fun w1 (h1 : EdAt w1 g b x y p q k m) => span_any h1
  rw [hlo, hhi] at CS ⊢
  have HCS := hid CS
  clear h CS hlo hhi
  go_enter Tryd.func12, Tryd.ntmps12
  go_wp2_with fail
  with_reducible refine C.mono ?_
  rintro e w1 ⟨rfl, hb1⟩
  have h1 := HH.out.on hb1
  have C2 := HCS.out w1 h1
  have H1 := hid h1
  clear C h1
  go_wp2_with fail
  with_reducible refine C2.mono ?_
  rintro e w2 ⟨rfl, hb2⟩
  have h2 := H1.out.on hb2
  obtain ⟨c0, c1, c2, c3, c4, c5, c6, c7⟩ := h2.cells
  have hl := h2.lt
  clear C2 h2
  go_wp2
  exact bodyPost_ret (by simp [results, Tryd.results12, go_sem, *]) rfl ⟨rfl, hb1.trans (hb2.mono hb1.size)⟩
theorem settled_any (s : ByteArray) (a : Nat) (w : World) (hs : s.size ≤ 4000000) (ha : a ≤ s.size) : Calls Tryd.prog 26 #[.string s, .int .i64 (a : Int)] w fun e w' => e = .returned (.int .i64 (settledE s.data.toList a : Int)) ∧ Below w.heap.size w w' := by
  have C := small (Back_any s (a : Int) (by omega) (by omega) w (by omega)) hs
  by_cases h0 : a = 0
  · subst h0
    rw [settled_zero]
    rw [show ((0 : Nat) : Int) = 0 from rfl, back_zero] at C
    unfold ansV at C
    simp only at C
    go_enter Tryd.func26, Tryd.ntmps26
    go_wp2_with fail
    with_reducible refine C.mono ?_
    rintro e w1 ⟨rfl, hb1⟩
    go_wp2
    go_ret
    exact ⟨rfl, hb1⟩
  · obtain ⟨kk, e1, e2, e3⟩ := back_next (l := s.data.toList) (a := a) (by omega) (by rw [ba_len]; exact ha)
    rw [e1] at C
    have CN := fun w1 => small (Next_any s (kk : Int) w1 (by omega)) hs
    rw [e3] at CN
    unfold ansV at C CN
    simp only at C CN
    generalize settledE s.data.toList a = z at *
    clear e1 e3
    go_enter Tryd.func26, Tryd.ntmps26
    go_wp2_with fail
    with_reducible refine C.mono ?_
    rintro e w1 ⟨rfl, hb1⟩
    have C2 := CN w1
    clear C CN
    go_wp2_with fail
    with_reducible refine C2.mono ?_
    rintro e w2 ⟨rfl, hb2⟩
    go_wp2
    go_ret
    exact ⟨rfl, hb1.trans (hb2.mono hb1.size)⟩
theorem to_any (h : EdAt w g b x y p q k m) (a : Nat) (keep : Bool) : Calls Tryd.prog 25 #[.pointer (some ⟨g, 0, none⟩), .int .i64 (a : Int), .bool keep] w fun e w' => e = .returned (.tuple #[]) ∧ EdAt w' g b a (if keep then y else a) p q k m ∧ w.grownBy w' (some g) := by
  obtain ⟨c0, c1, c2, c3, c4, c5, c6, c7⟩ := h.cells
  have f2 := h.free 2
  have f3 := h.free 3
  have hl := h.lt
  have hA : EdAt (w.setCell ⟨g, 2, none⟩ (.int .i64 (a : Int))) g b a y p q k m := store_in h
  have hB : EdAt ((w.setCell ⟨g, 2, none⟩ (.int .i64 (a : Int))).setCell ⟨g, 3, none⟩ (.int .i64 (a : Int))) g b a a p q k m := store_in hA
  have HA := hid hA
  have HB := hid hB
  clear h hA hB
  cases keep with
  | true =>
    go_enter Tryd.func25, Tryd.ntmps25
    go_wp2
    go_end0
    exact ⟨rfl, HA.out, grown_cell (World.grownBy.refl _ _)⟩
  | false =>
    go_enter Tryd.func25, Tryd.ntmps25
    go_wp2
    go_end0
    exact ⟨rfl, HB.out, grown_cell (grown_cell (World.grownBy.refl _ _))⟩
theorem Move_any (h : EdAt w g b x y p q k m) (hb : b.size ≤ 4000000) (a : Nat) (ha : a ≤ b.size) (keep : Bool) : Calls Tryd.prog 9 #[.pointer (some ⟨g, 0, none⟩), .int .i64 (a : Int), .bool keep] w fun e w' => e = .returned (.int .i64 0) ∧
    EdAt w' g b (settledE b.data.toList a) (if keep then y else settledE b.data.toList a) p q k m ∧ w.grownBy w' (some g) := by
  have C := is_any h
  have HH := hid h
  have CS := fun w1 => settled_any b a w1 hb ha
  generalize settledE b.data.toList a = z at *
  have CT := fun w1 (h1 : EdAt w1 g b x y p q k m) => to_any h1 z keep
  obtain ⟨Y, hY⟩ : ∃ Y, (if keep = true then y else z) = Y := ⟨_, rfl⟩
  rw [hY] at CT ⊢
  clear hY
  have HCT := hid CT
  have a1 : decide ((a : Int) < 0) = false := decide_eq_false (by omega)
  have a2 : decide ((b.size : Int) < (a : Int)) = false := decide_eq_false (by omega)
  have a3 : ¬ b.size < a := by omega
  have a4 : decide (b.size < a) = false := decide_eq_false a3
  clear h CT
  go_enter Tryd.func9, Tryd.ntmps9
  go_wp2_with fail
  with_reducible refine C.mono ?_
  rintro e w1 ⟨rfl, hb1⟩
  have h1 := HH.out.on hb1
  obtain ⟨c0, c1, c2, c3, c4, c5, c6, c7⟩ := h1.cells
  have hl := h1.lt
  have H1 := hid h1
  have C2 := CS w1
  clear C h1 CS
  go_wp2_with fail
  with_reducible refine C2.mono ?_
  rintro e w2 ⟨rfl, hb2⟩
  have C3 := HCT.out w2 (H1.out.on hb2)
  clear C2
  go_wp2_with fail
  with_reducible refine C3.mono ?_
  rintro e w3 ⟨rfl, h3, hg3⟩
  have H3 := hid h3
  have HG := hid hg3
  clear C3 h3 hg3 c0 c1 c2 c3 c4 c5 c6 c7
  go_wp2
  go_ret
  exact ⟨rfl, H3.out, grown_below (hb1.trans (hb2.mono hb1.size)) HG.out⟩
end
end Go.Proofs.YtcfgpmmclijonaaDoor
