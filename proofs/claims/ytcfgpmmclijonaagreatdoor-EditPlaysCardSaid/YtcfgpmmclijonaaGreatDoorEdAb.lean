/- Layer 25: an editor in memory; New, is, Text, span, Chosen, Depth. -/
import Derived.Test.YtcfgpmmclijonaaGreatDoorEdPlain
import Derived.Test.YtcfgpmmclijonaaGreatDoorKeY
import Derived.Test.YtcfgpmmclijonaaGreatDoorRuI2
import Derived.Test.YtcfgpmmclijonaaGreatDoorRf
import Derived.Defers
import Derived.Recover
import Derived.Shelf.Strings.LastIndex
import Derived.Shelf.Small.Strs
namespace Go.Proofs.YtcfgpmmclijonaaGreatDoor
set_option linter.unusedVariables false
set_option linter.unusedSimpArgs false
set_option maxRecDepth 100000
open Go.RowKit Go.Shelf Go.Lib
set_option maxRecDepth 100000
set_option maxHeartbeats 4000000

def edC (b : ByteArray) (x y : Nat) (p q : Value) (k m : Nat) : Array Value := #[.bool true, .string b, .int .i64 (x : Int), .int .i64 (y : Int), p, q, .int .i64 (k : Int), .int .i64 (m : Int)]
/-- An editor. -/
def EdAt (w : World) (g : Nat) (b : ByteArray) (x y : Nat) (p q : Value) (k m : Nat) : Prop := w.heap[g]? = some (.cells (edC b x y p q k m) 42 (0, 0))
section
variable {w w' : World} {g : Nat} {b : ByteArray} {x y : Nat} {p q : Value} {k m : Nat}
theorem EdAt.lt (h : EdAt w g b x y p q k m) : g < w.heap.size := lt_of_block h
theorem EdAt.on (h : EdAt w g b x y p q k m) (hb : Below w.heap.size w w') : EdAt w' g b x y p q k m := by
  unfold EdAt
  rw [hb.block _ h.lt]
  exact h
theorem EdAt.cells (h : EdAt w g b x y p q k m) : w.cell? ⟨g, 0, none⟩ = some (.bool true) ∧ w.cell? ⟨g, 1, none⟩ = some (.string b) ∧ w.cell? ⟨g, 2, none⟩ = some (.int .i64 (x : Int)) ∧ w.cell? ⟨g, 3, none⟩ = some (.int .i64 (y : Int)) ∧
    w.cell? ⟨g, 4, none⟩ = some p ∧ w.cell? ⟨g, 5, none⟩ = some q ∧ w.cell? ⟨g, 6, none⟩ = some (.int .i64 (k : Int)) ∧ w.cell? ⟨g, 7, none⟩ = some (.int .i64 (m : Int)) :=
  ⟨by rw [blk_cell h]; rfl, by rw [blk_cell h]; rfl, by rw [blk_cell h]; rfl, by rw [blk_cell h]; rfl, by rw [blk_cell h]; rfl, by rw [blk_cell h]; rfl, by rw [blk_cell h]; rfl, by rw [blk_cell h]; rfl⟩
theorem EdAt.free (h : EdAt w g b x y p q k m) (i : Nat) : w.frozen? ⟨g, i, none⟩ = false := blk_frozen h i
end
theorem New_any (s : ByteArray) (w : World) (hs : s.size ≤ 65536) : Calls Tryz.prog 4 #[.string s] w fun e w' => ∃ g, w.heap.size ≤ g ∧ e = .returned (.tuple #[.pointer (some ⟨g, 0, none⟩), .int .i64 0]) ∧ EdAt w' g s s.size s.size (.pointer none) (.pointer none) 0 0 ∧ Below w.heap.size w w' := by
  have h1 : ¬ ((65536 : Int) < (s.size : Int)) := by omega
  have h2 : decide ((65536 : Int) < (s.size : Int)) = false := decide_eq_false h1
  go_enter Tryz.func4, Tryz.ntmps4
  go_wp2
  refine bodyPost_ret (v := .tuple #[.pointer (some ⟨w.heap.size, 0, none⟩), .int .i64 0]) (by simp [results, Tryz.results4, go_sem, *]) rfl ⟨w.heap.size, Nat.le_refl _, rfl, World.alloc_heap_new _ _, (Below.refl _ _).alloc (Nat.le_refl _) _⟩
theorem New_none (s : ByteArray) (w : World) (hs : 65536 < s.size) : Calls Tryz.prog 4 #[.string s] w fun e w' => e = .returned (.tuple #[.pointer none, .int .i64 3]) ∧ Below w.heap.size w w' := by
  have h1 : (65536 : Int) < (s.size : Int) := by omega
  have h2 : decide ((65536 : Int) < (s.size : Int)) = true := decide_eq_true h1
  go_enter Tryz.func4, Tryz.ntmps4
  go_wp2
  exact bodyPost_ret (by simp [results, Tryz.results4, go_sem, *]) rfl ⟨rfl, Below.refl _ _⟩
theorem is_any {w : World} {g : Nat} {b : ByteArray} {x y : Nat} {p q : Value} {k m : Nat} (h : EdAt w g b x y p q k m) : Calls Tryz.prog 23 #[.pointer (some ⟨g, 0, none⟩)] w fun e w' => e = .returned (.int .i64 0) ∧ Below w.heap.size w w' := by
  obtain ⟨c0, c1, c2, c3, c4, c5, c6, c7⟩ := h.cells
  have hl := h.lt
  clear h
  go_enter Tryz.func23, Tryz.ntmps23
  go_wp2
  go_ret
  exact ⟨rfl, Below.refl _ _⟩
def txV (b : ByteArray) (x y : Nat) : Value := .agg #[.string b, .int .i64 (x : Int), .int .i64 (y : Int)]
section
variable {w : World} {g : Nat} {b : ByteArray} {x y : Nat} {p q : Value} {k m : Nat}
theorem text_any (h : EdAt w g b x y p q k m) : Calls Tryz.prog 19 #[.pointer (some ⟨g, 0, none⟩)] w fun e w' => e = .returned (.tuple #[txV b x y, .int .i64 0]) ∧ Below w.heap.size w w' := by
  have hB1 := (Below.refl w.heap.size w).alloc (Nat.le_refl _) (.cells #[.string { data := #[] }, .int .i64 0, .int .i64 0] 39)
  have hr : (w.alloc (.cells #[.string { data := #[] }, .int .i64 0, .int .i64 0] 39)).heap[w.heap.size]? = some (.cells #[.string { data := #[] }, .int .i64 0, .int .i64 0] 39 (0, 0)) := World.alloc_heap_new _ _
  have h1 := h.on hB1
  have C := is_any h1
  have HH := hid h1
  clear h h1
  unfold txV
  go_enter Tryz.func19, Tryz.ntmps19
  go_wp2_with fail
  with_reducible refine C.mono ?_
  rintro e w2 ⟨rfl, hb2⟩
  have h2 := HH.out.on hb2
  obtain ⟨c0, c1, c2, c3, c4, c5, c6, c7⟩ := h2.cells
  have hl := h2.lt
  have hs2 := hb2.size
  simp only [World.size_alloc] at hs2
  have r2 := (hb2.block w.heap.size (by simp)).trans hr
  have r3 := blk_cell r2 0
  have r4 := blk_cell r2 1
  have r5 := blk_cell r2 2
  have r6 := blk_frozen r2
  have hlw : w.heap.size < w2.heap.size := by omega
  have hB2 := hB1.trans (hb2.mono hB1.size)
  clear C h2 hb2 r2 hr
  go_wp2
  refine bodyPost_ret (v := .tuple #[.agg #[.string b, .int .i64 (x : Int), .int .i64 (y : Int)], .int .i64 0]) (by simp [results, Tryz.results19, go_sem, *]) rfl ⟨rfl, by (repeat first | with_reducible exact hB2 | refine Below.setCell ?_ (by first | exact Nat.le_refl _ | (simp; omega)) _ | refine Below.alloc ?_ (by simp; omega) _)⟩
theorem span_any (h : EdAt w g b x y p q k m) : Calls Tryz.prog 24 #[.pointer (some ⟨g, 0, none⟩)] w fun e w' => e = .returned (.tuple #[.int .i64 ((min x y : Nat) : Int), .int .i64 ((max x y : Nat) : Int)]) ∧ Below w.heap.size w w' := by
  obtain ⟨c0, c1, c2, c3, c4, c5, c6, c7⟩ := h.cells
  have hl := h.lt
  obtain ⟨lo, hlo⟩ : ∃ z, min x y = z := ⟨_, rfl⟩
  obtain ⟨hi, hhi⟩ : ∃ z, max x y = z := ⟨_, rfl⟩
  rw [hlo, hhi]
  have n1 : min (x : Int) (y : Int) = (lo : Int) := by omega
  have n2 : max (x : Int) (y : Int) = (hi : Int) := by omega
  clear h hlo hhi
  have hlw : w.heap.size < w.heap.size + 1 := by omega
  have hB1 := (Below.refl w.heap.size w).alloc (Nat.le_refl _) (.cells #[.int .i64 (x : Int), .int .i64 (y : Int)] 37)
  have hs1 : (w.alloc (.cells #[.int .i64 (x : Int), .int .i64 (y : Int)] 37)).heap.size = w.heap.size + 1 := World.size_alloc _ _
  have hr : (w.alloc (.cells #[.int .i64 (x : Int), .int .i64 (y : Int)] 37)).heap[w.heap.size]? = some (.cells #[.int .i64 (x : Int), .int .i64 (y : Int)] 37 (0, 0)) := World.alloc_heap_new _ _
  have r0 := blk_cell hr 0
  have r1 := blk_cell hr 1
  go_enter Tryz.func24, Tryz.ntmps24
  go_wp2
  clear c0 c1 c2 c3 c4 c5 c6 c7
  generalize w.alloc (.cells #[.int .i64 (x : Int), .int .i64 (y : Int)] 37) = w1 at *
  refine region_ext mixed (by kernel_rfl) ?_
  (repeat (go_big_quiet_step (fail)))
  refine wpQuiet_nil ?_
  intro w2 hb2
  go_wp2
  exact bodyPost_ret (by simp [results, Tryz.results24, go_sem, *]) rfl ⟨rfl, hB1.trans (hb2.mono hB1.size)⟩
end
end Go.Proofs.YtcfgpmmclijonaaGreatDoor

/- Layer 25: Chosen, settled, to, Move, Depth. -/
namespace Go.Proofs.YtcfgpmmclijonaaGreatDoor
set_option linter.unusedVariables false
set_option linter.unusedSimpArgs false
set_option maxRecDepth 100000
open Go.RowKit Go.Shelf Go.Lib
set_option maxRecDepth 100000
set_option maxHeartbeats 4000000

theorem grown_below {w w1 w2 : World} {ob : Option Nat} (hb : Below w.heap.size w w1) (hg : w1.grownBy w2 ob) : w.grownBy w2 ob :=
  ⟨hg.os.trans hb.os, hg.tape.trans hb.tape, hg.output.trans hb.output, Nat.le_trans hb.size hg.size, fun k hk hne => by rw [hg.block k (by have := hb.size; omega) hne, hb.block k hk]⟩
theorem grown_then {w w1 w2 : World} {ob : Option Nat} (hg : w.grownBy w1 ob) (hb : Below w1.heap.size w1 w2) : w.grownBy w2 ob :=
  ⟨hb.os.trans hg.os, hb.tape.trans hg.tape, hb.output.trans hg.output, Nat.le_trans hg.size hb.size, fun k hk hne => by rw [hb.block k (by have := hg.size; omega), hg.block k hk hne]⟩
theorem grown_two {w w1 w2 : World} {ob : Option Nat} (hg : w.grownBy w1 ob) (hb : w1.grownBy w2 ob) : w.grownBy w2 ob :=
  ⟨hb.os.trans hg.os, hb.tape.trans hg.tape, hb.output.trans hg.output, Nat.le_trans hg.size hb.size, fun k hk hne => by rw [hb.block k (by have := hg.size; omega) hne, hg.block k hk hne]⟩
theorem grown_cell {w w1 : World} {g j : Nat} {u : Value} (h : w.grownBy w1 (some g)) : w.grownBy (w1.setCell ⟨g, j, none⟩ u) (some g) := by
  refine ⟨h.os, h.tape, h.output, by simpa using h.size, fun k hk hne => ?_⟩
  rw [heap_setCell_other _ _ _ _ (fun e => hne (by rw [e]))]
  exact h.block k hk hne
section
variable {w : World} {g : Nat} {b : ByteArray} {x y : Nat} {p q : Value} {k m : Nat}
theorem Chosen_any (h : EdAt w g b x y p q k m) (hx : x ≤ b.size) (hy : y ≤ b.size) : Calls Tryz.prog 20 #[.pointer (some ⟨g, 0, none⟩)] w fun e w' => e = .returned (.tuple #[.string (b.extract (min x y) (max x y)), .int .i64 0]) ∧ Below w.heap.size w w' := by
  have C := is_any h
  have HH := hid h
  obtain ⟨lo, hlo⟩ : ∃ z, min x y = z := ⟨_, rfl⟩
  obtain ⟨hi, hhi⟩ : ∃ z, max x y = z := ⟨_, rfl⟩
  have n1 : lo ≤ hi := by omega
  have n2 : hi ≤ b.size := by omega
  have n3 : (lo : Int) ≤ (hi : Int) := by omega
  have n4 : (hi : Int) ≤ (b.size : Int) := by omega
  have CS := fun w1 (h1 : EdAt w1 g b x y p q k m) => span_any h1
  rw [hlo, hhi] at CS ⊢
  have HCS := hid CS
  clear h CS hlo hhi
  go_enter Tryz.func20, Tryz.ntmps20
  go_wp2_with fail
  with_reducible refine C.mono ?_
  rintro e w1 ⟨rfl, hb1⟩
  have h1 := HH.out.on hb1
  have C2 := HCS.out w1 h1
  have H1 := hid h1
  clear C h1
  go_wp2_with fail
  with_reducible refine C2.mono ?_
  rintro e w2 ⟨rfl, hb2⟩
  have h2 := H1.out.on hb2
  obtain ⟨c0, c1, c2, c3, c4, c5, c6, c7⟩ := h2.cells
  have hl := h2.lt
  clear C2 h2
  go_wp2
  exact bodyPost_ret (by simp [results, Tryz.results20, go_sem, *]) rfl ⟨rfl, hb1.trans (hb2.mono hb1.size)⟩
theorem settled_any (s : ByteArray) (a : Nat) (w : World) (hs : s.size ≤ 4000000) (ha : a ≤ s.size) : Calls Tryz.prog 40 #[.string s, .int .i64 (a : Int)] w fun e w' => e = .returned (.int .i64 (settledE s.data.toList a : Int)) ∧ Below w.heap.size w w' := by
  have C := small (Back_any s (a : Int) (by omega) (by omega) w (by omega)) hs
  by_cases h0 : a = 0
  · subst h0
    rw [settled_zero]
    rw [show ((0 : Nat) : Int) = 0 from rfl, back_zero] at C
    unfold ansV at C
    simp only at C
    go_enter Tryz.func40, Tryz.ntmps40
    go_wp2_with fail
    with_reducible refine C.mono ?_
    rintro e w1 ⟨rfl, hb1⟩
    go_wp2
    go_ret
    exact ⟨rfl, hb1⟩
  · obtain ⟨kk, e1, e2, e3⟩ := back_next (l := s.data.toList) (a := a) (by omega) (by rw [ba_len]; exact ha)
    rw [e1] at C
    have CN := fun w1 => small (Next_any s (kk : Int) w1 (by omega)) hs
    rw [e3] at CN
    unfold ansV at C CN
    simp only at C CN
    generalize settledE s.data.toList a = z at *
    clear e1 e3
    go_enter Tryz.func40, Tryz.ntmps40
    go_wp2_with fail
    with_reducible refine C.mono ?_
    rintro e w1 ⟨rfl, hb1⟩
    have C2 := CN w1
    clear C CN
    go_wp2_with fail
    with_reducible refine C2.mono ?_
    rintro e w2 ⟨rfl, hb2⟩
    go_wp2
    go_ret
    exact ⟨rfl, hb1.trans (hb2.mono hb1.size)⟩
theorem to_any (h : EdAt w g b x y p q k m) (a : Nat) (keep : Bool) : Calls Tryz.prog 30 #[.pointer (some ⟨g, 0, none⟩), .int .i64 (a : Int), .bool keep] w fun e w' => e = .returned (.tuple #[]) ∧ EdAt w' g b a (if keep then y else a) p q k m ∧ w.grownBy w' (some g) := by
  obtain ⟨c0, c1, c2, c3, c4, c5, c6, c7⟩ := h.cells
  have f2 := h.free 2
  have f3 := h.free 3
  have hl := h.lt
  have hA : EdAt (w.setCell ⟨g, 2, none⟩ (.int .i64 (a : Int))) g b a y p q k m := store_in h
  have hB : EdAt ((w.setCell ⟨g, 2, none⟩ (.int .i64 (a : Int))).setCell ⟨g, 3, none⟩ (.int .i64 (a : Int))) g b a a p q k m := store_in hA
  have HA := hid hA
  have HB := hid hB
  clear h hA hB
  cases keep with
  | true =>
    go_enter Tryz.func30, Tryz.ntmps30
    go_wp2
    go_end0
    exact ⟨rfl, HA.out, grown_cell (World.grownBy.refl _ _)⟩
  | false =>
    go_enter Tryz.func30, Tryz.ntmps30
    go_wp2
    go_end0
    exact ⟨rfl, HB.out, grown_cell (grown_cell (World.grownBy.refl _ _))⟩
theorem Move_any (h : EdAt w g b x y p q k m) (hb : b.size ≤ 4000000) (a : Nat) (ha : a ≤ b.size) (keep : Bool) : Calls Tryz.prog 11 #[.pointer (some ⟨g, 0, none⟩), .int .i64 (a : Int), .bool keep] w fun e w' => e = .returned (.int .i64 0) ∧
    EdAt w' g b (settledE b.data.toList a) (if keep then y else settledE b.data.toList a) p q k m ∧ w.grownBy w' (some g) := by
  have C := is_any h
  have HH := hid h
  have CS := fun w1 => settled_any b a w1 hb ha
  generalize settledE b.data.toList a = z at *
  have CT := fun w1 (h1 : EdAt w1 g b x y p q k m) => to_any h1 z keep
  obtain ⟨Y, hY⟩ : ∃ Y, (if keep = true then y else z) = Y := ⟨_, rfl⟩
  rw [hY] at CT ⊢
  clear hY
  have HCT := hid CT
  have a1 : decide ((a : Int) < 0) = false := decide_eq_false (by omega)
  have a2 : decide ((b.size : Int) < (a : Int)) = false := decide_eq_false (by omega)
  have a3 : ¬ b.size < a := by omega
  have a4 : decide (b.size < a) = false := decide_eq_false a3
  clear h CT
  go_enter Tryz.func11, Tryz.ntmps11
  go_wp2_with fail
  with_reducible refine C.mono ?_
  rintro e w1 ⟨rfl, hb1⟩
  have h1 := HH.out.on hb1
  obtain ⟨c0, c1, c2, c3, c4, c5, c6, c7⟩ := h1.cells
  have hl := h1.lt
  have H1 := hid h1
  have C2 := CS w1
  clear C h1 CS
  go_wp2_with fail
  with_reducible refine C2.mono ?_
  rintro e w2 ⟨rfl, hb2⟩
  have C3 := HCT.out w2 (H1.out.on hb2)
  clear C2
  go_wp2_with fail
  with_reducible refine C3.mono ?_
  rintro e w3 ⟨rfl, h3, hg3⟩
  have H3 := hid h3
  have HG := hid hg3
  clear C3 h3 hg3 c0 c1 c2 c3 c4 c5 c6 c7
  go_wp2
  go_ret
  exact ⟨rfl, H3.out, grown_below (hb1.trans (hb2.mono hb1.size)) HG.out⟩
end
end Go.Proofs.YtcfgpmmclijonaaGreatDoor

/- Layer 25: a change's deferred step, change, Type. -/
namespace Go.Proofs.YtcfgpmmclijonaaGreatDoor
set_option linter.unusedVariables false
set_option linter.unusedSimpArgs false
set_option maxRecDepth 100000
open Go.RowKit Go.Shelf Go.Lib
set_option maxRecDepth 100000
set_option maxHeartbeats 8000000

def stC (b0 : ByteArray) (x0 y0 : Nat) (b1 : ByteArray) (x1 y1 : Nat) (r : Value) : Array Value := #[.string b0, .int .i64 (x0 : Int), .int .i64 (y0 : Int), .string b1, .int .i64 (x1 : Int), .int .i64 (y1 : Int), r]
/-- A step. -/
def StAt (w : World) (t : Nat) (b0 : ByteArray) (x0 y0 : Nat) (b1 : ByteArray) (x1 y1 : Nat) (r : Value) : Prop := w.heap[t]? = some (.cells (stC b0 x0 y0 b1 x1 y1 r) 73 (0, 0))
theorem StAt.on {w w' : World} {t : Nat} {b0 : ByteArray} {x0 y0 : Nat} {b1 : ByteArray} {x1 y1 : Nat} {r : Value} (h : StAt w t b0 x0 y0 b1 x1 y1 r) (hb : Below w.heap.size w w') : StAt w' t b0 x0 y0 b1 x1 y1 r := by
  unfold StAt
  rw [hb.block _ (lt_of_block h)]
  exact h
theorem StAt.cells {w : World} {t : Nat} {b0 : ByteArray} {x0 y0 : Nat} {b1 : ByteArray} {x1 y1 : Nat} {r : Value} (h : StAt w t b0 x0 y0 b1 x1 y1 r) : w.cell? ⟨t, 0, none⟩ = some (.string b0) ∧ w.cell? ⟨t, 1, none⟩ = some (.int .i64 (x0 : Int)) ∧ w.cell? ⟨t, 2, none⟩ = some (.int .i64 (y0 : Int)) ∧
    w.cell? ⟨t, 3, none⟩ = some (.string b1) ∧ w.cell? ⟨t, 4, none⟩ = some (.int .i64 (x1 : Int)) ∧ w.cell? ⟨t, 5, none⟩ = some (.int .i64 (y1 : Int)) ∧ w.cell? ⟨t, 6, none⟩ = some r :=
  ⟨by rw [blk_cell h]; rfl, by rw [blk_cell h]; rfl, by rw [blk_cell h]; rfl, by rw [blk_cell h]; rfl, by rw [blk_cell h]; rfl, by rw [blk_cell h]; rfl, by rw [blk_cell h]; rfl⟩
theorem EdAt.below {B : Nat} {w w' : World} {g : Nat} {b : ByteArray} {x y : Nat} {p q : Value} {k m : Nat} (h : EdAt w g b x y p q k m) (hb : Below B w w') (hg : g < B) : EdAt w' g b x y p q k m := by
  unfold EdAt
  rw [hb.block _ hg]
  exact h
theorem two_allocs (W : World) (o1 o2 : Obj) {n : Nat} (hn : W.heap.size = n) : ((W.alloc o1).alloc o2).drew.heap[n]? = some o1 ∧ ((W.alloc o1).alloc o2).drew.heap[n + 1]? = some o2 ∧ Below n W ((W.alloc o1).alloc o2).drew := by
  subst hn
  refine ⟨?_, ?_, (((Below.refl _ _).alloc (Nat.le_refl _) _).alloc (by simp) _).drew⟩
  · show ((W.alloc o1).alloc o2).heap[W.heap.size]? = _
    rw [Below.heap_alloc _ _ _ (by simp)]
    exact World.alloc_heap_new _ _
  · show ((W.alloc o1).alloc o2).heap[W.heap.size + 1]? = _
    have := World.alloc_heap_new (W.alloc o1) o2
    rwa [World.size_alloc] at this
section
variable {w : World} {g t bE bO : Nat} {b b0 b1 : ByteArray} {x y x0 y0 x1 y1 : Nat} {p q r : Value} {k m : Nat}
theorem chg_any (u : FrameMode) (hE : EdAt w g b x y p q k m) (hS : StAt w t b0 x0 y0 b1 x1 y1 r) (hgt : g ≠ t) (cE : w.cell? ⟨bE, 0, none⟩ = some (.pointer (some ⟨g, 0, none⟩))) (cO : w.cell? ⟨bO, 0, none⟩ = some (.pointer (some ⟨t, 0, none⟩)))
    (nE : bE ≠ g ∧ bE ≠ t) (nO : bO ≠ g ∧ bO ≠ t) (hk : k < 256) :
    CallsD Tryz.prog 49 #[.pointer (some ⟨bE, 0, none⟩), .pointer (some ⟨bO, 0, none⟩)] u w fun e u' w' => u' = u ∧ (e = .returned (.tuple #[]) ∧ EdAt w' g b x y (.pointer (some ⟨t, 0, none⟩)) (.pointer none) (k + 1) 0 ∧ StAt w' t b0 x0 y0 b x y r ∧
      Turn (fun j => j = g ∨ j = t) w w') := by
  have HE := hid hE
  have HS := hid hS
  obtain ⟨c0, c1, c2, c3, c4, c5, c6, c7⟩ := hE.cells
  obtain ⟨s0, s1, s2, s3, s4, s5, s6⟩ := hS.cells
  have lg := hE.lt
  have lt := lt_of_block hS
  have lE : bE < w.heap.size := World.block_lt_of_cell? _ _ cE
  have lO : bO < w.heap.size := World.block_lt_of_cell? _ _ cO
  have CE := hid cE
  have CO := hid cO
  have k1 : decide ((256 : Int) < (k : Int) + 1) = false := decide_eq_false (by omega)
  have k2 : ¬ (256 : Int) < (k : Int) + 1 := by omega
  clear hE hS
  go_enter_d Tryz.func49, Tryz.ntmps49
  go_wp2
  refine region_ext_last 1 mixed (by kernel_rfl) ?_
  simp only [List.length_cons, List.length_nil, Nat.reduceAdd, Nat.reduceSub, List.take_succ_cons, List.take_zero, List.drop_succ_cons, List.drop_zero]
  (repeat (go_big_quiet_step (fail)))
  refine wpQuiet_nil ?_
  intro w4 hb4
  clear c0 c1 c2 c3 c4 c5 c6 c7 s0 s1 s2 s3 s4 s5 s6 cE cO
  have hE := HE.out.on hb4
  have hS := HS.out.on hb4
  obtain ⟨c0, c1, c2, c3, c4, c5, c6, c7⟩ := hE.cells
  obtain ⟨s0, s1, s2, s3, s4, s5, s6⟩ := hS.cells
  have f := hE.free
  have fs := fun i => blk_frozen hS i
  have cE : w4.cell? ⟨bE, 0, none⟩ = some (.pointer (some ⟨g, 0, none⟩)) := by rw [hb4.cell lE]; exact CE.out
  have cO : w4.cell? ⟨bO, 0, none⟩ = some (.pointer (some ⟨t, 0, none⟩)) := by rw [hb4.cell lO]; exact CO.out
  have H4 := hid hE
  have S4 := hid hS
  have HB4 := hid hb4
  obtain ⟨n1, n2⟩ := nE
  obtain ⟨n3, n4⟩ := nO
  have n5 := Ne.symm n1
  have n6 := Ne.symm n2
  have n7 := Ne.symm n3
  have n8 := Ne.symm n4
  have n9 := Ne.symm hgt
  clear hE hS hb4
  go_wp2
  go_end0
  refine ⟨rfl, ?_, ?_, ?_⟩
  · exact store_in (store_in (store_in (store_in (store_off (store_off (store_off H4.out hgt) hgt) hgt))))
  · exact store_off (store_off (store_off (store_off (store_in (store_in (store_in S4.out))) n9) n9) n9) n9
  · exact (((((((Turn.of_below HB4.out).trans (Turn.set (p := ⟨t, 3, none⟩) (Or.inr rfl) _)).trans (Turn.set (p := ⟨t, 4, none⟩) (Or.inr rfl) _)).trans (Turn.set (p := ⟨t, 5, none⟩) (Or.inr rfl) _)).trans (Turn.set (p := ⟨g, 4, none⟩) (Or.inl rfl) _)).trans (Turn.set (p := ⟨g, 5, none⟩) (Or.inl rfl) _)).trans (Turn.set (p := ⟨g, 7, none⟩) (Or.inl rfl) _)).trans (Turn.set (p := ⟨g, 6, none⟩) (Or.inl rfl) _)
theorem change_long (h : EdAt w g b x y p q k m) (s : ByteArray) (lo hi : Nat) (hlh : lo ≤ hi) (hhb : hi ≤ b.size) (hb : b.size ≤ 65536) (hs : s.size ≤ 1000000) (hl : 65536 < b.size - (hi - lo) + s.size) :
    Calls Tryz.prog 25 #[.pointer (some ⟨g, 0, none⟩), .string s, .int .i64 (lo : Int), .int .i64 (hi : Int)] w fun e w' => e = .returned (.int .i64 3) ∧ Below w.heap.size w w' := by
  have hB1 := (Below.refl w.heap.size w).alloc (Nat.le_refl _) (.cells #[.pointer (some ⟨g, 0, none⟩)] 23)
  have h1 := h.on hB1
  obtain ⟨c0, c1, c2, c3, c4, c5, c6, c7⟩ := h1.cells
  have lg := h.lt
  have k1 : decide ((65536 : Int) < (b.size : Int) - ((hi : Int) - (lo : Int)) + (s.size : Int)) = true := decide_eq_true (by omega)
  have k2 : (65536 : Int) < (b.size : Int) - ((hi : Int) - (lo : Int)) + (s.size : Int) := by omega
  clear h h1
  have hmf : ∀ (fn : Fn) (first cap : Array Value) (w : World), (Instr.makeFunc fn first cap).run Tryz.prog w = .ok (.func fn first cap) w := fun _ _ _ _ => rfl
  go_enter_defers Tryz.func25, Tryz.ntmps25
  go_wp2
  exact ⟨.int .i64 3, by simp [results, Tryz.results25, go_sem], rfl, hB1⟩
theorem change_none (h : EdAt w g b x y p q k m) (lo : Nat) (hhb : lo ≤ b.size) (hb : b.size ≤ 65536) (s : ByteArray) (hs : s.size = 0) :
    Calls Tryz.prog 25 #[.pointer (some ⟨g, 0, none⟩), .string s, .int .i64 (lo : Int), .int .i64 (lo : Int)] w fun e w' => e = .returned (.int .i64 0) ∧ Below w.heap.size w w' := by
  have hB1 := (Below.refl w.heap.size w).alloc (Nat.le_refl _) (.cells #[.pointer (some ⟨g, 0, none⟩)] 23)
  have h1 := h.on hB1
  obtain ⟨c0, c1, c2, c3, c4, c5, c6, c7⟩ := h1.cells
  have lg := h.lt
  have hse : (s.toList == []) = true := by
    rw [ByteArray.toList_eq, List.eq_nil_of_length_eq_zero (show s.data.toList.length = 0 by rw [ba_len]; exact hs)]
    rfl
  have k1 : decide ((65536 : Int) < (b.size : Int) - ((lo : Int) - (lo : Int)) + (s.size : Int)) = false := decide_eq_false (by omega)
  have k2 : ¬ (65536 : Int) < (b.size : Int) - ((lo : Int) - (lo : Int)) + (s.size : Int) := by omega
  have k3 : ¬ (65536 : Int) < (b.size : Int) := by omega
  have k4 : decide ((65536 : Int) < (b.size : Int)) = false := decide_eq_false k3
  have k5 : ¬ (65536 : Int) < (b.size : Int) + (s.size : Int) := by omega
  have k6 : decide ((65536 : Int) < (b.size : Int) + (s.size : Int)) = false := decide_eq_false k5
  clear h h1
  have hmf : ∀ (fn : Fn) (first cap : Array Value) (w : World), (Instr.makeFunc fn first cap).run Tryz.prog w = .ok (.func fn first cap) w := fun _ _ _ _ => rfl
  go_enter_defers Tryz.func25, Tryz.ntmps25
  go_wp2
  exact ⟨.int .i64 0, by simp [results, Tryz.results25, go_sem], rfl, hB1⟩
theorem change_any {P : Option Addr} (h : EdAt w g b x y (.pointer P) q k m) (s : ByteArray) (lo hi : Nat) (hlh : lo ≤ hi) (hhb : hi ≤ b.size) (hb : b.size ≤ 65536) (hs : s.size ≤ 1000000) (hl : b.size - (hi - lo) + s.size ≤ 65536) (hd : ¬ (lo = hi ∧ s.size = 0)) (hk : k < 256) :
    Calls Tryz.prog 25 #[.pointer (some ⟨g, 0, none⟩), .string s, .int .i64 (lo : Int), .int .i64 (hi : Int)] w fun e w' => ∃ t z, e = .returned (.int .i64 0) ∧ z = settledE (b.extract 0 lo ++ s ++ b.extract hi b.size).data.toList (lo + s.size) ∧
      EdAt w' g (b.extract 0 lo ++ s ++ b.extract hi b.size) z z (.pointer (some ⟨t, 0, none⟩)) (.pointer none) (k + 1) 0 ∧ StAt w' t b x y (b.extract 0 lo ++ s ++ b.extract hi b.size) z z (.pointer P) ∧ w.heap.size ≤ t ∧ w.grownBy w' (some g) := by
  have hB1 := (Below.refl w.heap.size w).alloc (Nat.le_refl _) (.cells #[.pointer (some ⟨g, 0, none⟩)] 23)
  have hr : (w.alloc (.cells #[.pointer (some ⟨g, 0, none⟩)] 23)).heap[w.heap.size]? = some (.cells #[.pointer (some ⟨g, 0, none⟩)] 23 (0, 0)) := World.alloc_heap_new _ _
  have h1 := h.on hB1
  obtain ⟨c0, c1, c2, c3, c4, c5, c6, c7⟩ := h1.cells
  have cE := blk_cell hr 0
  have lg := h.lt
  have lg1 : g < w.heap.size + 1 := by omega
  have lE : w.heap.size < w.heap.size + 1 := by omega
  have H1 := hid h1
  have HR := hid hr
  have k1 : decide ((65536 : Int) < (b.size : Int) - ((hi : Int) - (lo : Int)) + (s.size : Int)) = false := decide_eq_false (by omega)
  have k2 : ¬ (65536 : Int) < (b.size : Int) - ((hi : Int) - (lo : Int)) + (s.size : Int) := by omega
  have hse : (s.toList == []) = decide (s.size = 0) := by
    rw [ByteArray.toList_eq, ← ba_len]
    cases s.data.toList <;> simp
  have hcase : (((lo : Int) == (hi : Int)) = false) ∨ (((lo : Int) == (hi : Int)) = true ∧ (s.toList == []) = false) := by
    by_cases h : lo = hi
    · exact .inr ⟨beq_iff_eq.2 (by omega), by rw [hse]; exact decide_eq_false (fun h' => hd ⟨h, h'⟩)⟩
    · exact .inl (beq_eq_false_iff_ne.2 (by omega))
  have hmf : ∀ (fn : Fn) (first cap : Array Value) (w : World), (Instr.makeFunc fn first cap).run Tryz.prog w = .ok (.func fn first cap) w := fun _ _ _ _ => rfl
  clear h h1 hr hse hd
  go_enter_defers Tryz.func25, Tryz.ntmps25
  rcases hcase with q1 | ⟨q1, q2⟩
  all_goals
    go_upto_region 6 with fail
    go_cut [10] from 34 to 44 (fun v wx => ∃ t bO, v = .pointer (some ⟨bO, 0, none⟩) ∧ w.heap.size + 1 ≤ t ∧ w.heap.size + 1 ≤ bO ∧ t ≠ bO ∧ StAt wx t b x y { data := #[] } 0 0 (.pointer P) ∧ wx.heap[bO]? = some (.cells #[.pointer (some ⟨t, 0, none⟩)] 40 (0, 0)) ∧ Below (w.heap.size + 1) (w.alloc (.cells #[.pointer (some ⟨g, 0, none⟩)] 23)) wx)
    case first =>
      have hmx := mixed
      go_region
      all_goals go_wp2
      all_goals go_meet
      all_goals
        first
          | (obtain ⟨a1, a2, a3⟩ := two_allocs (w.alloc (.cells #[.pointer (some ⟨g, 0, none⟩)] 23)) (.cells (stC b x y { data := #[] } 0 0 (.pointer P)) 73) (.cells #[.pointer (some ⟨w.heap.size + 1, 0, none⟩)] 40) (World.size_alloc _ _)
             exact ⟨w.heap.size + 1, w.heap.size + 1 + 1, rfl, by omega, by omega, by omega, a1, a2, a3⟩)
          | (obtain ⟨a1, a2, a3⟩ := two_allocs (w.alloc (.cells #[.pointer (some ⟨g, 0, none⟩)] 23)) (.cells #[.pointer (some ⟨w.heap.size + 1 + 1, 0, none⟩)] 40) (.cells (stC b x y { data := #[] } 0 0 (.pointer P)) 73) (World.size_alloc _ _)
             exact ⟨w.heap.size + 1 + 1, w.heap.size + 1, rfl, by omega, by omega, by omega, a2, a1, a3⟩)
          | trace_state
    case rest =>
      obtain ⟨t, bO, rfl, ht, hbo, hne, hS, hO, hbx⟩ := hcut
      clear c0 c1 c2 c3 c4 c5 c6 c7 cE
      have hE := H1.out.below hbx lg1
      have hbox := (hbx.block w.heap.size lE).trans HR.out
      obtain ⟨c0, c1, c2, c3, c4, c5, c6, c7⟩ := hE.cells
      have cE : wc.cell? ⟨w.heap.size, 0, none⟩ = some (.pointer (some ⟨g, 0, none⟩)) := by rw [blk_cell hbox 0]; rfl
      have lgx := hE.lt
      have lEx : w.heap.size < wc.heap.size := lt_of_block hbox
      have HE := hid hE
      have HS := hid hS
      have HO := hid hO
      have HBX := hid hbx
      have HBOX := hid hbox
      clear hE hS hO hbx hbox
      have v1 : ¬ 9223372036854775807 < lo + s.size := by omega
      have v2 : ¬ 9223372036854775807 < lo + s.size + (b.size - hi) := by omega
      have v3 : (lo : Int) ≤ (b.size : Int) := by omega
      have v4 : (hi : Int) ≤ (b.size : Int) := by omega
      have v5 : lo ≤ b.size := by omega
      go_wp2
      refine region_ext_last 1 mixed (by kernel_rfl) ?_
      simp only [List.length_cons, List.length_nil, Nat.reduceAdd, Nat.reduceSub, List.take_succ_cons, List.take_zero, List.drop_succ_cons, List.drop_zero]
      (repeat (go_big_quiet_step (fail)))
      refine wpQuiet_nil ?_
      intro w4 hb4
      clear c0 c1 c2 c3 c4 c5 c6 c7 cE
      have hE4 := HE.out.on hb4
      have f1 := hE4.free 1
      have c1 := hE4.cells.2.1
      have hE5 : EdAt (w4.setCell ⟨g, 1, none⟩ (.string (b.extract 0 lo ++ s ++ b.extract hi b.size))) g (b.extract 0 lo ++ s ++ b.extract hi b.size) x y (.pointer P) q k m := store_in hE4
      have hbox4 := (hb4.block w.heap.size lEx).trans HBOX.out
      have hbox5 : (w4.setCell ⟨g, 1, none⟩ (.string (b.extract 0 lo ++ s ++ b.extract hi b.size))).heap[w.heap.size]? = _ := store_off hbox4 (by omega)
      have cE : w4.cell? ⟨w.heap.size, 0, none⟩ = some (.pointer (some ⟨g, 0, none⟩)) := by rw [blk_cell hbox4 0]; rfl
      have hns : (b.extract 0 lo ++ s ++ b.extract hi b.size).size = lo + s.size + (b.size - hi) := by
        rw [ByteArray.size_append, ByteArray.size_append, ByteArray.size_extract, ByteArray.size_extract]
        omega
      have CS := fun w1 => settled_any (b.extract 0 lo ++ s ++ b.extract hi b.size) (lo + s.size) w1 (by omega) (by omega)
      have hw4 : w4.heap.size = w4.heap.size := rfl
      have HE5 := hid hE5
      have HBOX5 := hid hbox5
      have hcE5 : (w4.setCell ⟨g, 1, none⟩ (.string (b.extract 0 lo ++ s ++ b.extract hi b.size))).cell? ⟨w.heap.size, 0, none⟩ = some (.pointer (some ⟨g, 0, none⟩)) := by rw [blk_cell hbox5 0]; rfl
      have hc15 := hE5.cells.2.1
      obtain ⟨z, hz⟩ : ∃ z, settledE (b.extract 0 lo ++ s ++ b.extract hi b.size).data.toList (lo + s.size) = z := ⟨_, rfl⟩
      rw [hz] at CS
      have HZ := hid hz
      obtain ⟨nb, hnb⟩ : ∃ y, b.extract 0 lo ++ s ++ b.extract hi b.size = y := ⟨_, rfl⟩
      simp only [Int.natCast_add] at CS
      rw [hnb] at CS HE5 HBOX5 hcE5 hc15
      have HNB := hid hnb
      have HB4 := hid hb4
      have hgt : t ≠ g := by omega
      have hgo : bO ≠ g := by omega
      have hgx : w.heap.size ≠ g := by omega
      have hS5 : StAt (w4.setCell ⟨g, 1, none⟩ (.string nb)) t b x y { data := #[] } 0 0 (.pointer P) := store_off (HS.out.on hb4) hgt
      have hO5 : (w4.setCell ⟨g, 1, none⟩ (.string nb)).heap[bO]? = some (.cells #[.pointer (some ⟨t, 0, none⟩)] 40 (0, 0)) := store_off ((hb4.block _ (lt_of_block HO.out)).trans HO.out) hgo
      have HS5 := hid hS5
      have HO5 := hid hO5
      clear hE4 hE5 hbox4 hbox5 hz hb4 hns hS5 hO5 hnb
      go_wp2_with fail
      rw [HNB.out]
      with_reducible refine (CS _).mono ?_
      rintro e w5 ⟨rfl, hb5⟩
      have hE6 := HE5.out.on hb5
      have hS6 := HS5.out.on hb5
      have hO6 := (hb5.block _ (lt_of_block HO5.out)).trans HO5.out
      have hX6 := (hb5.block _ (lt_of_block HBOX5.out)).trans HBOX5.out
      clear cE hcE5 hc15 f1 c1
      have cE : w5.cell? ⟨w.heap.size, 0, none⟩ = some (.pointer (some ⟨g, 0, none⟩)) := by rw [blk_cell hX6 0]; rfl
      have c2 := hE6.cells.2.2.1
      have c3 := hE6.cells.2.2.2.1
      have f2 := hE6.free 2
      have f3 := hE6.free 3
      have hE7 : EdAt ((w5.setCell ⟨g, 2, none⟩ (.int .i64 (z : Int))).setCell ⟨g, 3, none⟩ (.int .i64 (z : Int))) g nb z z (.pointer P) q k m := store_in (store_in hE6)
      have hS7 : StAt ((w5.setCell ⟨g, 2, none⟩ (.int .i64 (z : Int))).setCell ⟨g, 3, none⟩ (.int .i64 (z : Int))) t b x y { data := #[] } 0 0 (.pointer P) := store_off (store_off hS6 hgt) hgt
      have hO7 : ((w5.setCell ⟨g, 2, none⟩ (.int .i64 (z : Int))).setCell ⟨g, 3, none⟩ (.int .i64 (z : Int))).heap[bO]? = _ := store_off (store_off hO6 hgo) hgo
      have hX7 : ((w5.setCell ⟨g, 2, none⟩ (.int .i64 (z : Int))).setCell ⟨g, 3, none⟩ (.int .i64 (z : Int))).heap[w.heap.size]? = _ := store_off (store_off hX6 hgx) hgx
      have CH := chg_any .returning hE7 hS7 (Ne.symm hgt) (by rw [blk_cell hX7 0]; rfl) (by rw [blk_cell hO7 0]; rfl) ⟨hgx, by omega⟩ ⟨hgo, Ne.symm hne⟩ hk
      have HCH := hid CH
      have HG : Hid (w.grownBy ((w5.setCell ⟨g, 2, none⟩ (.int .i64 (z : Int))).setCell ⟨g, 3, none⟩ (.int .i64 (z : Int))) (some g)) :=
        hid (grown_cell (grown_cell (grown_then (grown_cell (grown_below (hB1.trans ((HBX.out.mono (by omega)).trans (HB4.out.mono (by omega)))) (World.grownBy.refl _ _))) hb5)))
      clear hE6 hS6 hO6 hX6 hE7 hS7 hO7 hX7 CH CS
      go_wp2
      refine leaves_cons (f := 49) (args := #[.pointer (some ⟨w.heap.size, 0, none⟩), .pointer (some ⟨bO, 0, none⟩)]) (by simp) (by simp [go_sem]) ?_
      refine HCH.out.mono ?_
      rintro e u' w8 ⟨rfl, rfl, h8, s8, T8⟩
      have hg8 : w.grownBy w8 (some g) := ⟨T8.os.trans HG.out.os, T8.tape.trans HG.out.tape, T8.output.trans HG.out.output, Nat.le_trans HG.out.size T8.size, fun j hj hn => by
        rw [T8.block j (by have := HG.out.size; omega) (by rintro (e | e)
                                                           · exact hn (by rw [e])
                                                           · omega)]
        exact HG.out.block j hj hn⟩
      refine ⟨.int .i64 0, by simp [results, Tryz.results25, go_sem], t, z, rfl, HZ.out.symm, ?_, ?_, by omega, hg8⟩
      · rw [HNB.out]; exact h8
      · rw [HNB.out]; exact s8
end
end Go.Proofs.YtcfgpmmclijonaaGreatDoor

/- Layer 25: Type, text, seam. -/
namespace Go.Proofs.YtcfgpmmclijonaaGreatDoor
set_option linter.unusedVariables false
set_option linter.unusedSimpArgs false
set_option maxRecDepth 100000
open Go.RowKit Go.Shelf Go.Lib
set_option maxRecDepth 100000
set_option maxHeartbeats 8000000

section
variable {w : World} {g : Nat} {b : ByteArray} {x y : Nat} {p q : Value} {k m : Nat}
theorem Type_of (h : EdAt w g b x y p q k m) (s : ByteArray) (R : Ending → World → Prop) (v : Int)
    (hc : ∀ w1, Below w.heap.size w w1 → EdAt w1 g b x y p q k m → Calls Tryz.prog 25 #[.pointer (some ⟨g, 0, none⟩), .string s, .int .i64 ((min x y : Nat) : Int), .int .i64 ((max x y : Nat) : Int)] w1 fun e w' => e = .returned (.int .i64 v) ∧ R (.returned (.int .i64 v)) w') :
    Calls Tryz.prog 7 #[.pointer (some ⟨g, 0, none⟩), .string s] w R := by
  have C := is_any h
  have HH := hid h
  obtain ⟨lo, hlo⟩ : ∃ z, min x y = z := ⟨_, rfl⟩
  obtain ⟨hi, hhi⟩ : ∃ z, max x y = z := ⟨_, rfl⟩
  have CS := fun w1 (h1 : EdAt w1 g b x y p q k m) => span_any h1
  rw [hlo, hhi] at CS hc
  have HCS := hid CS
  have HC := hid hc
  clear h CS hlo hhi hc
  go_enter Tryz.func7, Tryz.ntmps7
  go_wp2_with fail
  with_reducible refine C.mono ?_
  rintro e w1 ⟨rfl, hb1⟩
  have h1 := HH.out.on hb1
  have C2 := HCS.out w1 h1
  have H1 := hid h1
  clear C h1
  go_wp2_with fail
  with_reducible refine C2.mono ?_
  rintro e w2 ⟨rfl, hb2⟩
  have C3 := HC.out w2 (hb1.trans (hb2.mono hb1.size)) (H1.out.on hb2)
  clear C2
  go_wp2_with fail
  with_reducible refine C3.mono ?_
  rintro e w3 ⟨rfl, hR⟩
  have HR := hid hR
  clear hR C3
  go_wp2
  exact HR.out
end
end Go.Proofs.YtcfgpmmclijonaaGreatDoor

/- Layer 25: line, left (by pieces), the key 'left'. -/
namespace Go.Proofs.YtcfgpmmclijonaaGreatDoor
set_option linter.unusedVariables false
set_option linter.unusedSimpArgs false
set_option maxRecDepth 100000
open Go.RowKit Go.Shelf Go.Lib
set_option maxRecDepth 100000
set_option maxHeartbeats 8000000

def Tryz.laysIB_ren : Go.Shelf.Ren := ⟨fun | 137 => 62 | 217 => 79 | 266 => 96 | n => n, fun | 9 => 9 | 5 => 5 | 3 => 3 | n => n, fun | n => n⟩
theorem Tryz.laysIB : Go.Proofs.Lays.n137 Tryz.prog Tryz.laysIB_ren := {
  mixed := by kernel_rfl
  f137 := Tryz.func62.trans (congrArg some (by kernel_rfl))
  f217 := Tryz.func79.trans (congrArg some (by kernel_rfl))
  f266 := Tryz.func96.trans (congrArg some (by kernel_rfl))
  t3 := Tryz.underlying3
  a3 := Tryz.isAgg3
  z3 := Tryz.sizeOf3
  v3 := Tryz.zeroValue3
  t5 := Tryz.underlying5
  a5 := Tryz.isAgg5
  z5 := Tryz.sizeOf5
  v5 := Tryz.zeroValue5
  t9 := Tryz.underlying9
  a9 := Tryz.isAgg9
  z9 := Tryz.sizeOf9
  v9 := Tryz.zeroValue9 }
def Tryz.laysLIB_ren : Go.Shelf.Ren := ⟨fun | 149 => 61 | 222 => 78 | n => n, fun | 9 => 9 | 5 => 5 | 3 => 3 | 4 => 4 | n => n, fun | n => n⟩
theorem Tryz.laysLIB : Go.Proofs.Lays.n149 Tryz.prog Tryz.laysLIB_ren := {
  mixed := by kernel_rfl
  f149 := Tryz.func61.trans (congrArg some (by kernel_rfl))
  f222 := Tryz.func78.trans (congrArg some (by kernel_rfl))
  t3 := Tryz.underlying3
  a3 := Tryz.isAgg3
  z3 := Tryz.sizeOf3
  v3 := Tryz.zeroValue3
  t4 := Tryz.underlying4
  a4 := Tryz.isAgg4
  z4 := Tryz.sizeOf4
  v4 := Tryz.zeroValue4
  t5 := Tryz.underlying5
  a5 := Tryz.isAgg5
  z5 := Tryz.sizeOf5
  v5 := Tryz.zeroValue5
  t9 := Tryz.underlying9
  a9 := Tryz.isAgg9
  z9 := Tryz.sizeOf9
  v9 := Tryz.zeroValue9 }

theorem ib_in : ∀ (l : By) (c : UInt8), -1 ≤ Lib.indexByte l c ∧ Lib.indexByte l c < (l.length : Int)
  | [], c => by
    unfold Lib.indexByte
    simp
  | b :: t, c => by
    have := ib_in t c
    unfold Lib.indexByte
    simp only [List.length_cons]
    split
    · omega
    · split
      · omega
      · omega
theorem li_in (s : ByteArray) (c : Int) : -1 ≤ Lib.lastIndexByte s c ∧ Lib.lastIndexByte s c < (s.size : Int) := by
  unfold Lib.lastIndexByte
  rcases Lib.lastIdx_spec s c s.size with ⟨h, _⟩ | ⟨i, hi, h, _⟩
  · rw [h]
    omega
  · rw [h]
    omega
theorem lib_any (s : ByteArray) (hs : s.size < 4611686018427387904) (w : World) : Calls Tryz.prog 61 #[.string s, .int .u8 10] w fun e w' => e = .returned (.int .i64 (Lib.lastIndexByte s 10)) ∧ w' = w := Any.strings_LastIndexByte Tryz.laysLIB s 10 hs w
theorem ib_any (s : ByteArray) (w : World) : Calls Tryz.prog 62 #[.string s, .int .u8 10] w fun e w' => e = .returned (.int .i64 (Lib.indexByte s.data.toList 10)) ∧ w' = w := Any.strings_IndexByte Tryz.laysIB s 10 w
def lineA (s : ByteArray) (a : Nat) : Int := Lib.lastIndexByte (s.extract 0 a) 10 + 1
def lineB (s : ByteArray) (a : Nat) : Int := if 0 ≤ Lib.indexByte (s.extract a s.size).data.toList 10 then (a : Int) + Lib.indexByte (s.extract a s.size).data.toList 10 else (s.size : Int)
theorem line_any (s : ByteArray) (a : Nat) (w : World) (hs : s.size ≤ 4000000) (ha : a ≤ s.size) : Calls Tryz.prog 42 #[.string s, .int .i64 (a : Int)] w fun e w' => e = .returned (.tuple #[.int .i64 (lineA s a), .int .i64 (lineB s a)]) ∧ Below w.heap.size w w' := by
  have z1 : (s.extract 0 a).size = a := by rw [ByteArray.size_extract]; omega
  have z2 : (s.extract a s.size).size = s.size - a := by rw [ByteArray.size_extract]; omega
  have C1 := fun w1 => lib_any (s.extract 0 a) (by omega) w1
  have C2 := fun w1 => ib_any (s.extract a s.size) w1
  have b1 := li_in (s.extract 0 a) 10
  have b2 := ib_in (s.extract a s.size).data.toList 10
  rw [ba_len, z2] at b2
  rw [z1] at b1
  unfold lineA lineB
  obtain ⟨A, hA⟩ : ∃ A, Lib.lastIndexByte (s.extract 0 a) 10 = A := ⟨_, rfl⟩
  obtain ⟨B, hB⟩ : ∃ B, Lib.indexByte (s.extract a s.size).data.toList 10 = B := ⟨_, rfl⟩
  rw [hA] at C1 b1 ⊢
  rw [hB] at C2 b2 ⊢
  have ha2 : (a : Int) ≤ (s.size : Int) := by omega
  clear z1 z2 hA hB
  obtain ⟨b3, b4⟩ := b1
  obtain ⟨b5, b6⟩ := b2
  by_cases h : 0 ≤ B
  · have h1 : decide (0 ≤ B) = true := decide_eq_true h
    rw [if_pos h]
    go_enter Tryz.func42, Tryz.ntmps42
    go_wp2_with fail
    with_reducible refine (C1 _).mono ?_
    rintro e w1 ⟨rfl, rfl⟩
    go_wp2_with fail
    with_reducible refine (C2 _).mono ?_
    rintro e w2 ⟨rfl, rfl⟩
    go_wp2
    exact bodyPost_ret (by simp [results, Tryz.results42, go_sem, *]) rfl ⟨rfl, Below.refl _ _⟩
  · have h1 : decide (0 ≤ B) = false := decide_eq_false h
    rw [if_neg h]
    go_enter Tryz.func42, Tryz.ntmps42
    go_wp2_with fail
    with_reducible refine (C1 _).mono ?_
    rintro e w1 ⟨rfl, rfl⟩
    go_wp2_with fail
    with_reducible refine (C2 _).mono ?_
    rintro e w2 ⟨rfl, rfl⟩
    go_wp2
    exact bodyPost_ret (by simp [results, Tryz.results42, go_sem, *]) rfl ⟨rfl, Below.refl _ _⟩
def leftE (l : By) (a : Nat) : Nat := if (backE (pcs l) (a : Int)).2 then (backE (pcs l) (a : Int)).1 else a
theorem left_any (s : ByteArray) (a : Nat) (w : World) (hs : s.size ≤ 4000000) (ha : a ≤ s.size) : Calls Tryz.prog 31 #[.string s, .int .i64 (a : Int), .bool false] w fun e w' => e = .returned (.int .i64 (leftE s.data.toList a : Int)) ∧ Below w.heap.size w w' := by
  have C := small (Back_any s (a : Int) (by omega) (by omega) w (by omega)) hs
  unfold leftE
  obtain ⟨⟨kk, is⟩, he⟩ : ∃ z, backE (pcs s.data.toList) (a : Int) = z := ⟨_, rfl⟩
  rw [he] at C ⊢
  unfold ansV at C
  simp only at C ⊢
  cases is with
  | true =>
    rw [if_pos rfl]
    go_enter Tryz.func31, Tryz.ntmps31
    go_wp2_with fail
    with_reducible refine C.mono ?_
    rintro e w1 ⟨rfl, hb1⟩
    go_wp2
    go_ret
    exact ⟨rfl, hb1⟩
  | false =>
    rw [if_neg (by decide)]
    go_enter Tryz.func31, Tryz.ntmps31
    go_wp2_with fail
    with_reducible refine C.mono ?_
    rintro e w1 ⟨rfl, hb1⟩
    go_wp2
    go_ret
    exact ⟨rfl, hb1⟩
end Go.Proofs.YtcfgpmmclijonaaGreatDoor
