/- Layer 25: where the key 'left' leads. -/
import Derived.Test.YtcfgpmmclijonaaDoorEdE
namespace Go.Proofs.YtcfgpmmclijonaaDoor
set_option linter.unusedVariables false
set_option linter.unusedSimpArgs false
set_option maxRecDepth 100000
open Go.RowKit Go.Shelf Go.Lib
set_option maxRecDepth 100000
set_option maxHeartbeats 8000000

section
variable {w : World} {g : Nat} {b : ByteArray} {x : Nat} {p q : Value} {k m : Nat}
theorem goes_left (h : EdAt w g b x x p q k m) (hb : b.size ≤ 4000000) (hx : x ≤ b.size) (md : Nat) (a4 : bits .and .u8 (md : Int) 4 = 0) (a2 : bits .and .u8 (md : Int) 2 = 0) :
    Calls Tryd.prog 38 #[.pointer (some ⟨g, 0, none⟩), .agg #[.string ⟨#[108, 101, 102, 116]⟩, .int .u8 (md : Int)]] w fun e w' => e = .returned (.tuple #[.int .i64 (leftE b.data.toList x : Int), .bool true]) ∧ Below w.heap.size w w' := by
  have hB1 := (Below.refl w.heap.size w).alloc (Nat.le_refl _) (.cells #[.string ⟨#[108, 101, 102, 116]⟩, .int .u8 (md : Int)] 41)
  have bx1 : Box2 (w.alloc (.cells #[.string ⟨#[108, 101, 102, 116]⟩, .int .u8 (md : Int)] 41)) w.heap.size ⟨#[108, 101, 102, 116]⟩ md := Box2.of_heap (World.alloc_heap_new _ _)
  have h1 := h.on hB1
  obtain ⟨c0, c1, c2, c3, c4, c5, c6, c7⟩ := h1.cells
  have lg := h.lt
  have lg1 : g < w.heap.size + 1 := by omega
  have CL := fun w1 => line_any b x w1 hb hx
  have CF := fun w1 => left_any b x w1 hb hx
  have CS := fun w1 (h1 : EdAt w1 g b x x p q k m) => span_any h1
  simp only [Nat.min_self, Nat.max_self] at CS
  generalize leftE b.data.toList x = z at *
  generalize lineA b x = A at *
  generalize lineB b x = B at *
  have HCS := hid CS
  have HH := hid h1
  have hw1 : (w.alloc (.cells #[.string ⟨#[108, 101, 102, 116]⟩, .int .u8 (md : Int)] 41)).heap.size = w.heap.size + 1 := World.size_alloc _ _
  clear h h1 CS
  go_enter Tryd.func38, Tryd.ntmps38
  go_wp2
  refine region_ext mixed (by kernel_rfl) ?_
  generalize w.alloc (.cells #[.string ⟨#[108, 101, 102, 116]⟩, .int .u8 (md : Int)] 41) = w1 at *
  have lg2 : g < w1.heap.size := by omega
  (repeat (go_big_quiet_step (fail)))
  refine wpQuiet_nil ?_
  intro w2 hb2
  have bx2 := bx1.below hb2 (by omega)
  have hs2 := hb2.size
  have h2 := HH.out.on hb2
  have hB2 := hB1.trans (hb2.mono hB1.size)
  obtain ⟨k0, k1, k2, k3⟩ := bx2
  have H2 := hid h2
  clear c0 c1 c2 c3 c4 c5 c6 c7 h2 hb2
  go_wp2_with fail
  with_reducible refine (CL _).mono ?_
  rintro e w3 ⟨rfl, hb3⟩
  obtain ⟨j0, j1, j2, j3⟩ := Box2.below ⟨k0, k1, k2, k3⟩ hb3 (by omega)
  have hs3 := hb3.size
  have C3 := HCS.out w3 (H2.out.on hb3)
  have hB3 := hB2.trans (hb3.mono hB2.size)
  clear k0 k1 k2 k3 hb3
  go_wp2_with fail
  with_reducible refine C3.mono ?_
  rintro e w4 ⟨rfl, hb4⟩
  obtain ⟨k0, k1, k2, k3⟩ := Box2.below ⟨j0, j1, j2, j3⟩ hb4 (by omega)
  have hB4 := hB3.trans (hb4.mono hB3.size)
  clear j0 j1 j2 j3 hb4 C3
  go_wp2_with fail
  with_reducible refine (CF _).mono ?_
  rintro e w5 ⟨rfl, hb5⟩
  go_wp2
  exact bodyPost_ret (by simp [results, Tryd.results38, go_sem, *]) rfl ⟨rfl, hB4.trans (hb5.mono hB4.size)⟩
end
end Go.Proofs.YtcfgpmmclijonaaDoor
