/- Layer 25: an editor in memory; New, is, Text, span, Chosen, Depth. -/
import Derived.Test.YtcfgpmmclijonaaDoorEdPlain
import Derived.Test.YtcfgpmmclijonaaDoorKeG
import Derived.Test.YtcfgpmmclijonaaDoorRuI2
namespace Go.Proofs.YtcfgpmmclijonaaDoor
set_option linter.unusedVariables false
set_option linter.unusedSimpArgs false
set_option maxRecDepth 100000
open Go.RowKit Go.Shelf Go.Lib
set_option maxRecDepth 100000
set_option maxHeartbeats 4000000

def edC (b : ByteArray) (x y : Nat) (p q : Value) (k m : Nat) : Array Value := #[.bool true, .string b, .int .i64 (x : Int), .int .i64 (y : Int), p, q, .int .i64 (k : Int), .int .i64 (m : Int)]
/-- An editor. -/
def EdAt (w : World) (g : Nat) (b : ByteArray) (x y : Nat) (p q : Value) (k m : Nat) : Prop := w.heap[g]? = some (.cells (edC b x y p q k m) 56 (0, 0))
section
variable {w w' : World} {g : Nat} {b : ByteArray} {x y : Nat} {p q : Value} {k m : Nat}
theorem EdAt.lt (h : EdAt w g b x y p q k m) : g < w.heap.size := lt_of_block h
theorem EdAt.on (h : EdAt w g b x y p q k m) (hb : Below w.heap.size w w') : EdAt w' g b x y p q k m := by
  unfold EdAt
  rw [hb.block _ h.lt]
  exact h
theorem EdAt.cells (h : EdAt w g b x y p q k m) : w.cell? ⟨g, 0, none⟩ = some (.bool true) ∧ w.cell? ⟨g, 1, none⟩ = some (.string b) ∧ w.cell? ⟨g, 2, none⟩ = some (.int .i64 (x : Int)) ∧ w.cell? ⟨g, 3, none⟩ = some (.int .i64 (y : Int)) ∧
    w.cell? ⟨g, 4, none⟩ = some p ∧ w.cell? ⟨g, 5, none⟩ = some q ∧ w.cell? ⟨g, 6, none⟩ = some (.int .i64 (k : Int)) ∧ w.cell? ⟨g, 7, none⟩ = some (.int .i64 (m : Int)) :=
  ⟨by rw [blk_cell h]; rfl, by rw [blk_cell h]; rfl, by rw [blk_cell h]; rfl, by rw [blk_cell h]; rfl, by rw [blk_cell h]; rfl, by rw [blk_cell h]; rfl, by rw [blk_cell h]; rfl, by rw [blk_cell h]; rfl⟩
theorem EdAt.free (h : EdAt w g b x y p q k m) (i : Nat) : w.frozen? ⟨g, i, none⟩ = false := blk_frozen h i
end
theorem New_any (s : ByteArray) (w : World) (hs : s.size ≤ 65536) : Calls Tryd.prog 7 #[.string s] w fun e w' => ∃ g, w.heap.size ≤ g ∧ e = .returned (.tuple #[.pointer (some ⟨g, 0, none⟩), .int .i64 0]) ∧ EdAt w' g s s.size s.size (.pointer none) (.pointer none) 0 0 ∧ Below w.heap.size w w' := by
  have h1 : ¬ ((65536 : Int) < (s.size : Int)) := by omega
  have h2 : decide ((65536 : Int) < (s.size : Int)) = false := decide_eq_false h1
  go_enter Tryd.func7, Tryd.ntmps7
  go_wp2
  refine bodyPost_ret (v := .tuple #[.pointer (some ⟨w.heap.size, 0, none⟩), .int .i64 0]) (by simp [results, Tryd.results7, go_sem, *]) rfl ⟨w.heap.size, Nat.le_refl _, rfl, World.alloc_heap_new _ _, (Below.refl _ _).alloc (Nat.le_refl _) _⟩
theorem New_none (s : ByteArray) (w : World) (hs : 65536 < s.size) : Calls Tryd.prog 7 #[.string s] w fun e w' => e = .returned (.tuple #[.pointer none, .int .i64 3]) ∧ Below w.heap.size w w' := by
  have h1 : (65536 : Int) < (s.size : Int) := by omega
  have h2 : decide ((65536 : Int) < (s.size : Int)) = true := decide_eq_true h1
  go_enter Tryd.func7, Tryd.ntmps7
  go_wp2
  exact bodyPost_ret (by simp [results, Tryd.results7, go_sem, *]) rfl ⟨rfl, Below.refl _ _⟩
theorem is_any {w : World} {g : Nat} {b : ByteArray} {x y : Nat} {p q : Value} {k m : Nat} (h : EdAt w g b x y p q k m) : Calls Tryd.prog 24 #[.pointer (some ⟨g, 0, none⟩)] w fun e w' => e = .returned (.int .i64 0) ∧ Below w.heap.size w w' := by
  obtain ⟨c0, c1, c2, c3, c4, c5, c6, c7⟩ := h.cells
  have hl := h.lt
  clear h
  go_enter Tryd.func24, Tryd.ntmps24
  go_wp2
  go_ret
  exact ⟨rfl, Below.refl _ _⟩
def txV (b : ByteArray) (x y : Nat) : Value := .agg #[.string b, .int .i64 (x : Int), .int .i64 (y : Int)]
section
variable {w : World} {g : Nat} {b : ByteArray} {x y : Nat} {p q : Value} {k m : Nat}
theorem text_any (h : EdAt w g b x y p q k m) : Calls Tryd.prog 20 #[.pointer (some ⟨g, 0, none⟩)] w fun e w' => e = .returned (.tuple #[txV b x y, .int .i64 0]) ∧ Below w.heap.size w w' := by
  have hB1 := (Below.refl w.heap.size w).alloc (Nat.le_refl _) (.cells #[.string { data := #[] }, .int .i64 0, .int .i64 0] 31)
  have hr : (w.alloc (.cells #[.string { data := #[] }, .int .i64 0, .int .i64 0] 31)).heap[w.heap.size]? = some (.cells #[.string { data := #[] }, .int .i64 0, .int .i64 0] 31 (0, 0)) := World.alloc_heap_new _ _
  have h1 := h.on hB1
  have C := is_any h1
  have HH := hid h1
  clear h h1
  unfold txV
  go_enter Tryd.func20, Tryd.ntmps20
  go_wp2_with fail
  with_reducible refine C.mono ?_
  rintro e w2 ⟨rfl, hb2⟩
  have h2 := HH.out.on hb2
  obtain ⟨c0, c1, c2, c3, c4, c5, c6, c7⟩ := h2.cells
  have hl := h2.lt
  have hs2 := hb2.size
  simp only [World.size_alloc] at hs2
  have r2 := (hb2.block w.heap.size (by simp)).trans hr
  have r3 := blk_cell r2 0
  have r4 := blk_cell r2 1
  have r5 := blk_cell r2 2
  have r6 := blk_frozen r2
  have hlw : w.heap.size < w2.heap.size := by omega
  have hB2 := hB1.trans (hb2.mono hB1.size)
  clear C h2 hb2 r2 hr
  go_wp2
  refine bodyPost_ret (v := .tuple #[.agg #[.string b, .int .i64 (x : Int), .int .i64 (y : Int)], .int .i64 0]) (by simp [results, Tryd.results20, go_sem, *]) rfl ⟨rfl, by (repeat first | with_reducible exact hB2 | refine Below.setCell ?_ (by first | exact Nat.le_refl _ | (simp; omega)) _ | refine Below.alloc ?_ (by simp; omega) _)⟩
theorem span_any (h : EdAt w g b x y p q k m) : Calls Tryd.prog 29 #[.pointer (some ⟨g, 0, none⟩)] w fun e w' => e = .returned (.tuple #[.int .i64 ((min x y : Nat) : Int), .int .i64 ((max x y : Nat) : Int)]) ∧ Below w.heap.size w w' := by
  obtain ⟨c0, c1, c2, c3, c4, c5, c6, c7⟩ := h.cells
  have hl := h.lt
  obtain ⟨lo, hlo⟩ : ∃ z, min x y = z := ⟨_, rfl⟩
  obtain ⟨hi, hhi⟩ : ∃ z, max x y = z := ⟨_, rfl⟩
  rw [hlo, hhi]
  have n1 : min (x : Int) (y : Int) = (lo : Int) := by omega
  have n2 : max (x : Int) (y : Int) = (hi : Int) := by omega
  clear h hlo hhi
  have hlw : w.heap.size < w.heap.size + 1 := by omega
  have hB1 := (Below.refl w.heap.size w).alloc (Nat.le_refl _) (.cells #[.int .i64 (x : Int), .int .i64 (y : Int)] 29)
  have hs1 : (w.alloc (.cells #[.int .i64 (x : Int), .int .i64 (y : Int)] 29)).heap.size = w.heap.size + 1 := World.size_alloc _ _
  have hr : (w.alloc (.cells #[.int .i64 (x : Int), .int .i64 (y : Int)] 29)).heap[w.heap.size]? = some (.cells #[.int .i64 (x : Int), .int .i64 (y : Int)] 29 (0, 0)) := World.alloc_heap_new _ _
  have r0 := blk_cell hr 0
  have r1 := blk_cell hr 1
  go_enter Tryd.func29, Tryd.ntmps29
  go_wp2
  clear c0 c1 c2 c3 c4 c5 c6 c7
  generalize w.alloc (.cells #[.int .i64 (x : Int), .int .i64 (y : Int)] 29) = w1 at *
  refine region_ext mixed (by kernel_rfl) ?_
  (repeat (go_big_quiet_step (fail)))
  refine wpQuiet_nil ?_
  intro w2 hb2
  go_wp2
  exact bodyPost_ret (by simp [results, Tryd.results29, go_sem, *]) rfl ⟨rfl, hB1.trans (hb2.mono hB1.size)⟩
end
end Go.Proofs.YtcfgpmmclijonaaDoor
