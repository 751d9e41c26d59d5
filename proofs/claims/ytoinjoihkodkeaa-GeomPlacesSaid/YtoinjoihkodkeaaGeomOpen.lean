/- Layer 1: how points, sizes and rectangles that come in read; the frame that every statement of this seat shares. -/
import Derived.Test.YtoinjoihkodkeaaRows
import Derived.Test.YtoinjoihkodkeaaBase
import Derived.ProofKit
import Derived.OpenShut
import Derived.ChangeOld
import Derived.Carry
namespace Go.Proofs.Ytoinjoihkodkeaa
set_option linter.unusedVariables false
set_option linter.unusedSimpArgs false
open Go.ChangeShapes Go.WideShapes Go.ChangeAt Go.RowKit

theorem own : ownKnob Try.prog.godebug = none := by kernel_rfl
theorem laidOut : laidOutB Try.prog = true := by kernel_rfl
theorem cells_int : Try.prog.cellsOf 3 = 1 := by kernel_rfl
theorem cells_point : Try.prog.cellsOf 23 = 2 := by kernel_rfl
theorem cells_size : Try.prog.cellsOf 25 = 2 := by kernel_rfl
theorem cells_rect : Try.prog.cellsOf 27 = 4 := by kernel_rfl

section
variable {H : Type} {enc : TypeId × Value → H} {W : World} {base b0 : Nat} {spare : Nat → Bool} {held : Bool} {r : Reach} {v : Value} {d : DataW H} {p : List MemPlace}
theorem int_of {n : Nat} {c : Value} {x : DataW H × List MemPlace} (h : DataW.trod enc Try.prog W base spare held n 3 [c] = some x) : ∃ a : Int, c = .int .i64 a ∧ (Lit.int .i64 a).wf = true := by
  obtain ⟨a, ea, _, wa⟩ := DataW.trod_int Try.underlying3 h
  simp at ea
  exact ⟨a, ea, wa⟩
theorem point_of {n : Nat} {c0 c1 : Value} {x : DataW H × List MemPlace} (h : DataW.trod enc Try.prog W base spare held n 23 [c0, c1] = some x) : ∃ a b : Int, c0 = .int .i64 a ∧ c1 = .int .i64 b ∧ (Lit.int .i64 a).wf = true ∧ (Lit.int .i64 b).wf = true := by
  obtain ⟨y0, y1, m, _, _, h0, h1⟩ := trod_struct2 Try.underlying23 h
  simp [cells_int] at h0 h1
  obtain ⟨a, ea, wa⟩ := int_of h0
  obtain ⟨b, eb, wb⟩ := int_of h1
  exact ⟨a, b, ea, eb, wa, wb⟩
theorem size_of {n : Nat} {c0 c1 : Value} {x : DataW H × List MemPlace} (h : DataW.trod enc Try.prog W base spare held n 25 [c0, c1] = some x) : ∃ a b : Int, c0 = .int .i64 a ∧ c1 = .int .i64 b ∧ (Lit.int .i64 a).wf = true ∧ (Lit.int .i64 b).wf = true := by
  obtain ⟨y0, y1, m, _, _, h0, h1⟩ := trod_struct2 Try.underlying25 h
  simp [cells_int] at h0 h1
  obtain ⟨a, ea, wa⟩ := int_of h0
  obtain ⟨b, eb, wb⟩ := int_of h1
  exact ⟨a, b, ea, eb, wa, wb⟩
theorem open_point (hv : Value.okWide Try.prog W r b0 23 v) (h : DataW.Trod enc Try.prog W base spare held 23 v d p) : ∃ a b : Int, v = .agg #[.int .i64 a, .int .i64 b] := by
  obtain ⟨⟨l⟩, rfl, hsz⟩ := okWide_struct Try.underlying23 hv
  obtain ⟨fuel, hf⟩ := h
  match l, hsz.trans cells_point with
  | [c0, c1], _ =>
    obtain ⟨a, b, rfl, rfl, _, _⟩ := point_of hf
    exact ⟨a, b, rfl⟩
theorem open_size (hv : Value.okWide Try.prog W r b0 25 v) (h : DataW.Trod enc Try.prog W base spare held 25 v d p) : ∃ a b : Int, v = .agg #[.int .i64 a, .int .i64 b] := by
  obtain ⟨⟨l⟩, rfl, hsz⟩ := okWide_struct Try.underlying25 hv
  obtain ⟨fuel, hf⟩ := h
  match l, hsz.trans cells_size with
  | [c0, c1], _ =>
    obtain ⟨a, b, rfl, rfl, _, _⟩ := size_of hf
    exact ⟨a, b, rfl⟩
theorem open_rect (hv : Value.okWide Try.prog W r b0 27 v) (h : DataW.Trod enc Try.prog W base spare held 27 v d p) : ∃ x y a b : Int, v = .agg #[.int .i64 x, .int .i64 y, .int .i64 a, .int .i64 b] := by
  obtain ⟨⟨l⟩, rfl, hsz⟩ := okWide_struct Try.underlying27 hv
  obtain ⟨fuel, hf⟩ := h
  match l, hsz.trans cells_rect with
  | [c0, c1, c2, c3], _ =>
    obtain ⟨y0, y1, m, _, _, h0, h1⟩ := trod_struct2 Try.underlying27 hf
    simp [Value.cells, cells_point, cells_size] at h0 h1
    obtain ⟨x, y, rfl, rfl, _, _⟩ := point_of h0
    obtain ⟨a, b, rfl, rfl, _, _⟩ := size_of h1
    exact ⟨x, y, a, b, rfl⟩
theorem open_byte (hv : Value.okWide Try.prog W r b0 5 v) (h : DataW.Trod enc Try.prog W base spare held 5 v d p) : ∃ a : Int, v = .int .u8 a ∧ 0 ≤ a ∧ a ≤ 255 := by
  obtain ⟨a, rfl, _, _, wa⟩ := open_int Try.underlying5 hv h
  exact ⟨a, rfl, by simpa [Lit.wf, IntKind.min, IntKind.max, IntKind.signed, IntKind.bits] using wa⟩
end
end Go.Proofs.Ytoinjoihkodkeaa
