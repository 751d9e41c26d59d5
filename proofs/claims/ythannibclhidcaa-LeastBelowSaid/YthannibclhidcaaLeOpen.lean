/- Layer 9: how slices of bounds come in, and how many bytes they take. -/
import Derived.Test.YthannibclhidcaaFlexOpen
import Derived.SizedLaws
namespace Go.Proofs.Ythannibclhidcaa
set_option linter.unusedVariables false
set_option linter.unusedSimpArgs false
open Go.ChangeShapes Go.WideShapes Go.ChangeAt Go.RowKit

theorem cells_bound : Try.prog.cellsOf 54 = 3 := by kernel_rfl
theorem bytes_bound : Try.prog.bytesOf 54 = 24 := by kernel_rfl
theorem bytes_int : Try.prog.bytesOf 3 = 8 := by kernel_rfl
theorem bytes_of {H : Type} {P : Program} {ts : List TypeId} {ds : List (DataW H)} (h : (DataW.weightsEach P ts ds).all (· ≤ reachBytes) = true) {j n b : Nat} {t e : TypeId} {d : DataW H} (ht : ts[j]? = some t) (hd : ds[j]? = some d) (hu : P.underlying t = some (.slice e)) (hb : P.bytesOf e = b)
    (hc : n = 0 ∨ ∃ es sp, d = .slice es sp ∧ es.length = n) : n * b ≤ reachBytes := by
  rcases hc with rfl | ⟨es, sp, rfl, rfl⟩
  · rw [Nat.zero_mul]
    exact Nat.zero_le _
  · have := sized_slice h ht hd hu
    rw [hb] at this
    exact Nat.le_trans (Nat.mul_le_mul_right b (Nat.le_add_right _ _)) this
section
variable {H : Type} {enc : TypeId × Value → H} {W : World} {base b0 : Nat} {spare : Nat → Bool} {held : Bool} {r : Reach} {v : Value} {d : DataW H} {p : List MemPlace}
theorem bound_of {n : Nat} {c0 c1 c2 : Value} {x : DataW H × List MemPlace} (h : DataW.trod enc Try.prog W base spare held n 54 [c0, c1, c2] = some x) : ∃ t : T3, (c0 = .int .i64 t.p ∧ c1 = .int .i64 t.q ∧ c2 = .int .i64 t.r) ∧ (Lit.int .i64 t.p).wf = true ∧ (Lit.int .i64 t.q).wf = true ∧ (Lit.int .i64 t.r).wf = true := by
  obtain ⟨y0, y1, y2, m, _, _, h0, h1, h2⟩ := Go.Deep.trod_struct3 Try.underlying54 h
  simp [cells_int] at h0 h1 h2
  obtain ⟨a, ea, wa⟩ := int_of h0
  obtain ⟨b, eb, wb⟩ := int_of h1
  obtain ⟨c, ec, wc⟩ := int_of h2
  exact ⟨⟨a, b, c⟩, ⟨ea, eb, ec⟩, wa, wb, wc⟩
theorem open_bound (hv : Value.okWide Try.prog W r b0 54 v) (h : DataW.Trod enc Try.prog W base spare held 54 v d p) : ∃ t : T3, v = .agg #[.int .i64 t.p, .int .i64 t.q, .int .i64 t.r] ∧ (Lit.int .i64 t.p).wf = true ∧ (Lit.int .i64 t.q).wf = true ∧ (Lit.int .i64 t.r).wf = true := by
  obtain ⟨cs, rfl, hcs⟩ := okWide_struct Try.underlying54 hv
  obtain ⟨fuel, hf⟩ := h
  rw [cells_bound] at hcs
  obtain ⟨c0, c1, c2, rfl⟩ : ∃ c0 c1 c2, cs = #[c0, c1, c2] := by
    match cs, hcs with
    | ⟨[c0, c1, c2]⟩, _ => exact ⟨c0, c1, c2, rfl⟩
  obtain ⟨t, ⟨rfl, rfl, rfl⟩, hw⟩ := bound_of hf
  exact ⟨t, rfl, hw⟩
theorem open_bounds (hv : Value.okWide Try.prog W r b0 43 v) (h : DataW.Trod enc Try.prog W base spare held 43 v d p) :
    ∃ (A : Option Addr) (c : Nat) (L : List T3), v = .slice A L.length c ∧ At W.heap.size W A (t3s L) ∧ (A = none → L.length = 0 ∧ c = 0) ∧ L.length ≤ c ∧ c ≤ maxLen ∧ (L.length = 0 ∨ ∃ es sp, d = .slice es sp ∧ es.length = L.length) := by
  obtain ⟨a0, len, cap, rfl⟩ := okWide_slice Try.underlying43 hv
  obtain ⟨fuel, hf⟩ := h
  rcases Go.Deep.open_slice Try.underlying43 hf with ⟨hc, _⟩ | ⟨a, len', cap', m, n, D, Pl, hc, _, hle, hcap, hm, hdt, hel⟩
  · simp [Value.cells] at hc
    obtain ⟨rfl, rfl, rfl⟩ := hc
    exact ⟨none, 0, [], rfl, fun h => by simp [t3s] at h, fun _ => ⟨rfl, rfl⟩, Nat.le_refl _, Nat.zero_le _, .inl rfl⟩
  · simp [Value.cells] at hc
    obtain ⟨rfl, rfl, rfl⟩ := hc
    rw [cells_bound] at hel
    have hlm : len ≤ m := by
      rw [hm]
      split <;> omega
    have hall : ∀ i, i < len → ∃ t : T3, W.cell? (a.add (i * 3)) = some (.int .i64 t.p) ∧ W.cell? ((a.add (i * 3)).add 1) = some (.int .i64 t.q) ∧ W.cell? ((a.add (i * 3)).add 2) = some (.int .i64 t.r) := fun i hi => by
      obtain ⟨cs, h1, h2⟩ := hel i (by omega)
      obtain ⟨_, hl, hc⟩ := World.cells?_some h1
      match cs, hl with
      | [c0, c1, c2], _ =>
        obtain ⟨t, ⟨rfl, rfl, rfl⟩, _⟩ := bound_of h2
        exact ⟨t, by simpa [Addr.add] using hc 0 (by omega), by simpa using hc 1 (by omega), by simpa using hc 2 (by omega)⟩
    have : Inhabited T3 := ⟨⟨0, 0, 0⟩⟩
    obtain ⟨f, hf⟩ := Go.Deep.choose_lt hall
    have hd : d = .slice ((List.range len).map D) ((List.range (m - len)).map fun j => D (len + j)) := congrArg Prod.fst hdt
    refine ⟨some a, cap, (List.range len).map f, by simp, ?_, (fun h => by cases h), by simpa using hle, hcap, .inr ⟨_, _, hd, by simp⟩⟩
    intro hpos
    have hlen : 0 < len := by
      rw [t3s_len, List.length_map, List.length_range] at hpos
      omega
    have h0 := (hf 0 hlen).1
    have ha : a = ⟨a.block, a.off, none⟩ := by
      have := cell_spot h0
      simpa [Addr.add] using this
    generalize a.block = g, a.off = o at ha
    subst ha
    refine At.of_t3 (World.block_lt_of_cell? _ _ (by simpa [Addr.add] using h0)) (fun k hk => ?_) hpos
    have hk' : k < len := by simpa using hk
    have := hf k hk'
    simp only [add_none] at this
    simpa using this
theorem ints_data {L : List Int} {A : Option Addr} {c : Nat} (h : DataW.Trod enc Try.prog W base spare held 22 (.slice A L.length c) d p) : L.length = 0 ∨ ∃ es sp, d = .slice es sp ∧ es.length = L.length := by
  obtain ⟨fuel, hf⟩ := h
  rcases Go.Deep.open_slice1 Try.underlying22 cells_int hf with ⟨hc, _⟩ | ⟨a, len', cap', m, n, V, D, Pl, hc, _, hle, hcap, hm, hdt, hel⟩
  · simp [Value.cells] at hc
    exact .inl (by simp [hc.2.1])
  · simp [Value.cells] at hc
    obtain ⟨rfl, hl, rfl⟩ := hc
    exact .inr ⟨_, _, congrArg Prod.fst hdt, by simp [hl]⟩
end
end Go.Proofs.Ythannibclhidcaa
