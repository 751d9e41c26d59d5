/- How a Four (four small numbers) that comes in reads. -/
import Derived.Test.YtoinjoihkodkeaaGeomOpen
import Derived.Lib.SmallJoins
namespace Go.Proofs.Ytoinjoihkodkeaa
set_option linter.unusedVariables false
set_option linter.unusedSimpArgs false
open Go.ChangeShapes Go.WideShapes Go.ChangeAt Go.RowKit
theorem cells_int8 : Try.prog.cellsOf 47 = 1 := by kernel_rfl
theorem cells_four : Try.prog.cellsOf 49 = 4 := by kernel_rfl
section
variable {H : Type} {enc : TypeId × Value → H} {W : World} {base b0 : Nat} {spare : Nat → Bool} {held : Bool} {r : Reach} {v : Value} {d : DataW H} {p : List MemPlace}
theorem int8_of {n : Nat} {c : Value} {x : DataW H × List MemPlace} (h : DataW.trod enc Try.prog W base spare held n 47 [c] = some x) : ∃ a : Int, c = .int .i8 a ∧ -128 ≤ a ∧ a ≤ 127 := by
  obtain ⟨a, ea, _, wa⟩ := DataW.trod_int Try.underlying47 h
  simp at ea
  exact ⟨a, ea, by simpa [Lit.wf, IntKind.min, IntKind.max, IntKind.signed, IntKind.bits] using wa⟩
theorem open_four (hv : Value.okWide Try.prog W r b0 49 v) (h : DataW.Trod enc Try.prog W base spare held 49 v d p) : ∃ a b c e : Int, v = .agg #[.int .i8 a, .int .i8 b, .int .i8 c, .int .i8 e] ∧ (-128 ≤ a ∧ a ≤ 127) ∧ (-128 ≤ b ∧ b ≤ 127) ∧ (-128 ≤ c ∧ c ≤ 127) ∧ (-128 ≤ e ∧ e ≤ 127) := by
  obtain ⟨⟨l⟩, rfl, hsz⟩ := okWide_struct Try.underlying49 hv
  obtain ⟨fuel, hf⟩ := h
  match l, hsz.trans cells_four with
  | [c0, c1, c2, c3], _ =>
    obtain ⟨xs, n, _, _, _, hlen, hF⟩ := DataW.trod_struct Try.underlying49 hf
    match xs, hlen with
    | [y0, y1, y2, y3], _ =>
      have h0 := hF 0 _ rfl
      have h1 := hF 1 _ rfl
      have h2 := hF 2 _ rfl
      have h3 := hF 3 _ rfl
      simp [Value.cells, cells_int8] at h0 h1 h2 h3
      obtain ⟨a, rfl, wa⟩ := int8_of h0
      obtain ⟨b, rfl, wb⟩ := int8_of h1
      obtain ⟨c, rfl, wc⟩ := int8_of h2
      obtain ⟨e, rfl, we⟩ := int8_of h3
      exact ⟨a, b, c, e, rfl, wa, wb, wc, we⟩
end
end Go.Proofs.Ytoinjoihkodkeaa
