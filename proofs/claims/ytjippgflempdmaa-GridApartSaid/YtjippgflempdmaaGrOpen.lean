/- Layer 11: how sizes, lists of sizes and rectangles that come in read. -/
import Derived.Test.YtjippgflempdmaaFlexOpen
import Derived.Test.YtjippgflempdmaaMgGrB
namespace Go.Proofs.Ytjippgflempdmaa
set_option linter.unusedVariables false
set_option linter.unusedSimpArgs false
set_option maxRecDepth 100000
open Go.ChangeShapes Go.WideShapes Go.ChangeAt Go.RowKit

theorem cells_point : Try.prog.cellsOf 40 = 2 := by kernel_rfl
theorem cells_size : Try.prog.cellsOf 31 = 2 := by kernel_rfl
theorem cells_rect : Try.prog.cellsOf 42 = 4 := by kernel_rfl
theorem At.of_t2 {B : Nat} {w : World} {g o : Nat} {L : List T2} (hg : g < B) (h : ∀ k, (hk : k < L.length) → w.cell? ⟨g, o + k * 2, none⟩ = some (.int .i64 L[k].p) ∧ w.cell? ⟨g, o + k * 2 + 1, none⟩ = some (.int .i64 L[k].q)) : At B w (some ⟨g, o, none⟩) (t2s L) := by
  intro _
  refine ⟨g, o, rfl, hg, fun j v hj => ?_⟩
  have hj' : j < L.length * 2 := by
    rw [← t2s_len]
    exact (List.getElem?_eq_some_iff.1 hj).1
  obtain ⟨k, hk⟩ : ∃ k, j / 2 = k := ⟨_, rfl⟩
  have hkl : k < L.length := by omega
  obtain ⟨h0, h1⟩ := h k hkl
  obtain ⟨c0, c1⟩ := t2s_at L k hkl
  have hr : j = k * 2 ∨ j = k * 2 + 1 := by omega
  rcases hr with rfl | rfl
  · rw [c0] at hj
    injection hj with hj
    subst hj
    exact h0
  · rw [c1] at hj
    injection hj with hj
    subst hj
    rw [← Nat.add_assoc]
    exact h1
section
variable {H : Type} {enc : TypeId × Value → H} {W : World} {base b0 : Nat} {spare : Nat → Bool} {held : Bool} {r : Reach} {v : Value} {d : DataW H} {p : List MemPlace}
theorem point_of {n : Nat} {c0 c1 : Value} {x : DataW H × List MemPlace} (h : DataW.trod enc Try.prog W base spare held n 40 [c0, c1] = some x) : ∃ a b : Int, c0 = .int .i64 a ∧ c1 = .int .i64 b := by
  obtain ⟨y0, y1, m, _, _, h0, h1⟩ := trod_struct2 Try.underlying40 h
  simp [cells_int] at h0 h1
  obtain ⟨a, ea, _⟩ := int_of h0
  obtain ⟨b, eb, _⟩ := int_of h1
  exact ⟨a, b, ea, eb⟩
theorem size_of {n : Nat} {c0 c1 : Value} {x : DataW H × List MemPlace} (h : DataW.trod enc Try.prog W base spare held n 31 [c0, c1] = some x) : ∃ a b : Int, c0 = .int .i64 a ∧ c1 = .int .i64 b := by
  obtain ⟨y0, y1, m, _, _, h0, h1⟩ := trod_struct2 Try.underlying31 h
  simp [cells_int] at h0 h1
  obtain ⟨a, ea, _⟩ := int_of h0
  obtain ⟨b, eb, _⟩ := int_of h1
  exact ⟨a, b, ea, eb⟩
theorem open_rect (hv : Value.okWide Try.prog W r b0 42 v) (h : DataW.Trod enc Try.prog W base spare held 42 v d p) : ∃ x y a b : Int, v = .agg #[.int .i64 x, .int .i64 y, .int .i64 a, .int .i64 b] := by
  obtain ⟨⟨l⟩, rfl, hsz⟩ := okWide_struct Try.underlying42 hv
  obtain ⟨fuel, hf⟩ := h
  match l, hsz.trans cells_rect with
  | [c0, c1, c2, c3], _ =>
    obtain ⟨y0, y1, m, _, _, h0, h1⟩ := trod_struct2 Try.underlying42 hf
    simp [Value.cells, cells_point, cells_size] at h0 h1
    obtain ⟨x, y, rfl, rfl⟩ := point_of h0
    obtain ⟨a, b, rfl, rfl⟩ := size_of h1
    exact ⟨x, y, a, b, rfl⟩
theorem open_sizes (hv : Value.okWide Try.prog W r b0 34 v) (h : DataW.Trod enc Try.prog W base spare held 34 v d p) :
    ∃ (A : Option Addr) (c : Nat) (L : List T2), v = .slice A L.length c ∧ At W.heap.size W A (t2s L) ∧ (A = none → L.length = 0 ∧ c = 0) ∧ L.length ≤ c ∧ c ≤ maxLen := by
  obtain ⟨a0, len, cap, rfl⟩ := okWide_slice Try.underlying34 hv
  obtain ⟨fuel, hf⟩ := h
  rcases Go.Deep.open_slice Try.underlying34 hf with ⟨hc, _⟩ | ⟨a, len', cap', m, n, D, Pl, hc, _, hle, hcap, hm, _, hel⟩
  · simp [Value.cells] at hc
    obtain ⟨rfl, rfl, rfl⟩ := hc
    exact ⟨none, 0, [], rfl, fun h => by simp [t2s] at h, fun _ => ⟨rfl, rfl⟩, Nat.le_refl _, Nat.zero_le _⟩
  · simp [Value.cells] at hc
    obtain ⟨rfl, rfl, rfl⟩ := hc
    rw [cells_size] at hel
    have hlm : len ≤ m := by
      rw [hm]
      split <;> omega
    have hall : ∀ i, i < len → ∃ t : T2, W.cell? (a.add (i * 2)) = some (.int .i64 t.p) ∧ W.cell? ((a.add (i * 2)).add 1) = some (.int .i64 t.q) := fun i hi => by
      obtain ⟨cs, h1, h2⟩ := hel i (by omega)
      obtain ⟨_, hl, hc⟩ := World.cells?_some h1
      match cs, hl with
      | [c0, c1], _ =>
        obtain ⟨x, y, rfl, rfl⟩ := size_of h2
        exact ⟨⟨x, y⟩, by simpa [Addr.add] using hc 0 (by omega), by simpa using hc 1 (by omega)⟩
    have : Inhabited T2 := ⟨⟨0, 0⟩⟩
    obtain ⟨f, hf⟩ := Go.Deep.choose_lt hall
    refine ⟨some a, cap, (List.range len).map f, by simp, ?_, (fun h => by cases h), by simpa using hle, hcap⟩
    intro hpos
    have hlen : 0 < len := by
      rw [t2s_len, List.length_map, List.length_range] at hpos
      omega
    have h0 := (hf 0 hlen).1
    have ha : a = ⟨a.block, a.off, none⟩ := by
      have := cell_spot h0
      simpa [Addr.add] using this
    generalize a.block = g, a.off = o at ha
    subst ha
    refine At.of_t2 (World.block_lt_of_cell? _ _ (by simpa [Addr.add] using h0)) (fun k hk => ?_) hpos
    have hk' : k < len := by simpa using hk
    have := hf k hk'
    simp only [add_none] at this
    simpa using this
end
end Go.Proofs.Ytjippgflempdmaa
