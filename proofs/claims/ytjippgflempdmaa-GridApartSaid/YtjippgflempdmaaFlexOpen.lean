/- Layer 10: how slices of numbers and tracks that come in read; the frame that every statement of this seat shares. -/
import Derived.Test.YtjippgflempdmaaRows
import Derived.Test.YtjippgflempdmaaMgBase
import Derived.ProofKit
import Derived.OpenShut
import Derived.ChangeOld
import Derived.Carry
import Derived.Deep.Strs
namespace Go.Proofs.Ytjippgflempdmaa
set_option linter.unusedVariables false
set_option linter.unusedSimpArgs false
set_option maxRecDepth 100000
open Go.ChangeShapes Go.WideShapes Go.ChangeAt Go.RowKit

theorem own : ownKnob Try.prog.godebug = none := by kernel_rfl
theorem laidOut : laidOutB Try.prog = true := by kernel_rfl
theorem cells_int : Try.prog.cellsOf 3 = 1 := by kernel_rfl
theorem cells_track : Try.prog.cellsOf 99 = 3 := by kernel_rfl

theorem At.of_t3 {B : Nat} {w : World} {g o : Nat} {L : List T3} (hg : g < B) (h : ∀ k, (hk : k < L.length) → w.cell? ⟨g, o + k * 3, none⟩ = some (.int .i64 L[k].p) ∧ w.cell? ⟨g, o + k * 3 + 1, none⟩ = some (.int .i64 L[k].q) ∧ w.cell? ⟨g, o + k * 3 + 2, none⟩ = some (.int .i64 L[k].r)) : At B w (some ⟨g, o, none⟩) (t3s L) := by
  intro _
  refine ⟨g, o, rfl, hg, fun j v hj => ?_⟩
  have hj' : j < L.length * 3 := by
    rw [← t3s_len]
    exact (List.getElem?_eq_some_iff.1 hj).1
  obtain ⟨k, hk⟩ : ∃ k, j / 3 = k := ⟨_, rfl⟩
  have hkl : k < L.length := by omega
  obtain ⟨h0, h1, h2⟩ := h k hkl
  obtain ⟨c0, c1, c2⟩ := t3s_at L k hkl
  have hr : j = k * 3 ∨ j = k * 3 + 1 ∨ j = k * 3 + 2 := by omega
  rcases hr with rfl | rfl | rfl
  · rw [c0] at hj
    injection hj with hj
    subst hj
    exact h0
  · rw [c1] at hj
    injection hj with hj
    subst hj
    rw [← Nat.add_assoc]
    exact h1
  · rw [c2] at hj
    injection hj with hj
    subst hj
    rw [← Nat.add_assoc]
    exact h2
theorem At.of_int {B : Nat} {w : World} {g o : Nat} {l : List Int} (hg : g < B) (h : ∀ k, (hk : k < l.length) → w.cell? ⟨g, o + k, none⟩ = some (.int .i64 l[k])) : At B w (some ⟨g, o, none⟩) (ints l) := by
  intro _
  refine ⟨g, o, rfl, hg, fun j v hj => ?_⟩
  have hj' : j < l.length := by
    rw [← ints_len]
    exact (List.getElem?_eq_some_iff.1 hj).1
  rw [ints_at l j hj'] at hj
  injection hj with hj
  subst hj
  exact h j hj'
theorem add_none {g o : Nat} (i : Nat) : (⟨g, o, none⟩ : Addr).add i = ⟨g, o + i, none⟩ := by
  unfold Addr.add
  split
  · rename_i h
    simp [h]
  · rfl
theorem cell_spot {w : World} {a : Addr} {v : Value} (h : w.cell? a = some v) : a = ⟨a.block, a.off, none⟩ := by
  obtain ⟨g, o, s⟩ := a
  cases s with
  | none => rfl
  | some s =>
    unfold World.cell? at h
    split at h
    · simp at h
    · cases h

section
variable {H : Type} {enc : TypeId × Value → H} {W : World} {base b0 : Nat} {spare : Nat → Bool} {held : Bool} {r : Reach} {v : Value} {d : DataW H} {p : List MemPlace}
theorem int_of {n : Nat} {c : Value} {x : DataW H × List MemPlace} (h : DataW.trod enc Try.prog W base spare held n 3 [c] = some x) : ∃ a : Int, c = .int .i64 a ∧ (Lit.int .i64 a).wf = true := by
  obtain ⟨a, ea, _, wa⟩ := DataW.trod_int Try.underlying3 h
  simp at ea
  exact ⟨a, ea, wa⟩
theorem track_of {n : Nat} {c0 c1 c2 : Value} {x : DataW H × List MemPlace} (h : DataW.trod enc Try.prog W base spare held n 99 [c0, c1, c2] = some x) : ∃ t : T3, c0 = .int .i64 t.p ∧ c1 = .int .i64 t.q ∧ c2 = .int .i64 t.r := by
  obtain ⟨y0, y1, y2, m, _, _, h0, h1, h2⟩ := Go.Deep.trod_struct3 Try.underlying99 h
  simp [cells_int] at h0 h1 h2
  obtain ⟨a, ea, _⟩ := int_of h0
  obtain ⟨b, eb, _⟩ := int_of h1
  obtain ⟨c, ec, _⟩ := int_of h2
  exact ⟨⟨a, b, c⟩, ea, eb, ec⟩
theorem open_tracks (hv : Value.okWide Try.prog W r b0 89 v) (h : DataW.Trod enc Try.prog W base spare held 89 v d p) :
    ∃ (A : Option Addr) (c : Nat) (L : List T3), v = .slice A L.length c ∧ At W.heap.size W A (t3s L) ∧ (A = none → L.length = 0 ∧ c = 0) ∧ L.length ≤ c ∧ c ≤ maxLen := by
  obtain ⟨a0, len, cap, rfl⟩ := okWide_slice Try.underlying89 hv
  obtain ⟨fuel, hf⟩ := h
  rcases Go.Deep.open_slice Try.underlying89 hf with ⟨hc, _⟩ | ⟨a, len', cap', m, n, D, Pl, hc, _, hle, hcap, hm, _, hel⟩
  · simp [Value.cells] at hc
    obtain ⟨rfl, rfl, rfl⟩ := hc
    exact ⟨none, 0, [], rfl, fun h => by simp [t3s] at h, fun _ => ⟨rfl, rfl⟩, Nat.le_refl _, Nat.zero_le _⟩
  · simp [Value.cells] at hc
    obtain ⟨rfl, rfl, rfl⟩ := hc
    rw [cells_track] at hel
    have hlm : len ≤ m := by
      rw [hm]
      split <;> omega
    have hall : ∀ i, i < len → ∃ t : T3, W.cell? (a.add (i * 3)) = some (.int .i64 t.p) ∧ W.cell? ((a.add (i * 3)).add 1) = some (.int .i64 t.q) ∧ W.cell? ((a.add (i * 3)).add 2) = some (.int .i64 t.r) := fun i hi => by
      obtain ⟨cs, h1, h2⟩ := hel i (by omega)
      obtain ⟨_, hl, hc⟩ := World.cells?_some h1
      match cs, hl with
      | [c0, c1, c2], _ =>
        obtain ⟨t, rfl, rfl, rfl⟩ := track_of h2
        exact ⟨t, by simpa [Addr.add] using hc 0 (by omega), by simpa using hc 1 (by omega), by simpa using hc 2 (by omega)⟩
    have : Inhabited T3 := ⟨⟨0, 0, 0⟩⟩
    obtain ⟨f, hf⟩ := Go.Deep.choose_lt hall
    refine ⟨some a, cap, (List.range len).map f, by simp, ?_, (fun h => by cases h), by simpa using hle, hcap⟩
    intro hpos
    have hlen : 0 < len := by
      rw [t3s_len, List.length_map, List.length_range] at hpos
      omega
    have h0 := (hf 0 hlen).1
    have ha : a = ⟨a.block, a.off, none⟩ := by
      have := cell_spot h0
      simpa [Addr.add] using this
    generalize a.block = g, a.off = o at ha
    subst ha
    refine At.of_t3 (World.block_lt_of_cell? _ _ (by simpa [Addr.add] using h0)) (fun k hk => ?_) hpos
    have hk' : k < len := by simpa using hk
    have := hf k hk'
    simp only [add_none] at this
    simpa using this
theorem open_intsl (hv : Value.okWide Try.prog W r b0 23 v) (h : DataW.Trod enc Try.prog W base spare held 23 v d p) :
    ∃ (A : Option Addr) (c : Nat) (L : List Int), v = .slice A L.length c ∧ At W.heap.size W A (ints L) ∧ (A = none → L.length = 0 ∧ c = 0) ∧ L.length ≤ c ∧ c ≤ maxLen ∧ (∀ n ∈ L, (Lit.int .i64 n).wf = true) := by
  obtain ⟨a0, len, cap, rfl⟩ := okWide_slice Try.underlying23 hv
  obtain ⟨fuel, hf⟩ := h
  rcases Go.Deep.open_slice1 Try.underlying23 cells_int hf with ⟨hc, _⟩ | ⟨a, len', cap', m, n, V, D, Pl, hc, _, hle, hcap, hm, _, hel⟩
  · simp [Value.cells] at hc
    obtain ⟨rfl, rfl, rfl⟩ := hc
    exact ⟨none, 0, [], rfl, fun h => by simp [ints] at h, fun _ => ⟨rfl, rfl⟩, Nat.le_refl _, Nat.zero_le _, by simp⟩
  · simp [Value.cells] at hc
    obtain ⟨rfl, rfl, rfl⟩ := hc
    have hlm : len ≤ m := by
      rw [hm]
      split <;> omega
    have hall : ∀ i, i < len → ∃ n : Int, W.cell? (a.add i) = some (.int .i64 n) ∧ (Lit.int .i64 n).wf = true := fun i hi => by
      obtain ⟨h1, h2⟩ := hel i (by omega)
      obtain ⟨n, e, hw⟩ := int_of h2
      rw [e] at h1
      exact ⟨n, h1, hw⟩
    obtain ⟨f, hf⟩ := Go.Deep.choose_lt hall
    refine ⟨some a, cap, (List.range len).map f, by simp, ?_, (fun h => by cases h), by simpa using hle, hcap, ?_⟩
    · intro hpos
      have hlen : 0 < len := by
        rw [ints_len, List.length_map, List.length_range] at hpos
        omega
      have h0 := (hf 0 hlen).1
      have ha : a = ⟨a.block, a.off, none⟩ := by
        have := cell_spot h0
        simpa [Addr.add] using this
      generalize a.block = g, a.off = o at ha
      subst ha
      refine At.of_int (World.block_lt_of_cell? _ _ (by simpa [Addr.add] using h0)) (fun k hk => ?_) hpos
      have hk' : k < len := by simpa using hk
      have := (hf k hk').1
      simp only [add_none] at this
      simpa using this
    · intro n hn
      obtain ⟨i, hi, rfl⟩ := List.mem_map.1 hn
      exact (hf i (List.mem_range.1 hi)).2
end
end Go.Proofs.Ytjippgflempdmaa
