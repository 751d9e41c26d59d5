/- Layer 7: how a wrapper, and a slice of wrappers, that come in read. -/
import Derived.Test.YtfieldhlgipimaaDoorRows
import Derived.Test.YtfieldhlgipimaaDoorWrC
import Derived.ProofKit
import Derived.OpenShut
import Derived.ChangeOld
import Derived.Carry
import Derived.Deep.Strs
namespace Go.Proofs.YtfieldhlgipimaaDoor
set_option linter.unusedVariables false
set_option linter.unusedSimpArgs false
set_option maxRecDepth 100000
open Go.ChangeShapes Go.WideShapes Go.ChangeAt Go.RowKit

theorem own : ownKnob Tryd.prog.godebug = none := by kernel_rfl
theorem laidOut : laidOutB Tryd.prog = true := by kernel_rfl
theorem cells_u8 : Tryd.prog.cellsOf 5 = 1 := by kernel_rfl
theorem cells_u16 : Tryd.prog.cellsOf 22 = 1 := by kernel_rfl
theorem cells_int : Tryd.prog.cellsOf 3 = 1 := by kernel_rfl
theorem cells_string : Tryd.prog.cellsOf 9 = 1 := by kernel_rfl
theorem cells_wrap : Tryd.prog.cellsOf 24 = 4 := by kernel_rfl

theorem add_none {g o : Nat} (i : Nat) : (⟨g, o, none⟩ : Addr).add i = ⟨g, o + i, none⟩ := by
  unfold Addr.add
  split
  · rename_i h
    simp [h]
  · rfl
theorem cell_spot {w : World} {a : Addr} {v : Value} (h : w.cell? a = some v) : a = ⟨a.block, a.off, none⟩ := by
  obtain ⟨g, o, s⟩ := a
  cases s with
  | none => rfl
  | some s =>
    unfold World.cell? at h
    split at h
    · simp at h
    · cases h
theorem At.of_wr {B : Nat} {w : World} {g o : Nat} {L : List Wr} (hg : g < B) (h : ∀ k, (hk : k < L.length) → w.cell? ⟨g, o + k * 4, none⟩ = some (.int .u8 L[k].k) ∧ w.cell? ⟨g, o + k * 4 + 1, none⟩ = some (.int .u16 L[k].m) ∧ w.cell? ⟨g, o + k * 4 + 2, none⟩ = some (.int .i64 L[k].n) ∧ w.cell? ⟨g, o + k * 4 + 3, none⟩ = some (.string L[k].s)) : At B w (some ⟨g, o, none⟩) (wrs L) := by
  intro _
  refine ⟨g, o, rfl, hg, fun j v hj => ?_⟩
  have hj' : j < L.length * 4 := by
    rw [← wrs_len]
    exact (List.getElem?_eq_some_iff.1 hj).1
  obtain ⟨k, hk⟩ : ∃ k, j / 4 = k := ⟨_, rfl⟩
  have hkl : k < L.length := by omega
  obtain ⟨h0, h1, h2, h3⟩ := h k hkl
  obtain ⟨c0, c1, c2, c3⟩ := wrs_at L k hkl
  have hr : j = k * 4 ∨ j = k * 4 + 1 ∨ j = k * 4 + 2 ∨ j = k * 4 + 3 := by omega
  rcases hr with rfl | rfl | rfl | rfl
  · rw [c0] at hj
    injection hj with hj
    subst hj
    exact h0
  · rw [c1] at hj
    injection hj with hj
    subst hj
    rw [← Nat.add_assoc]
    exact h1
  · rw [c2] at hj
    injection hj with hj
    subst hj
    rw [← Nat.add_assoc]
    exact h2
  · rw [c3] at hj
    injection hj with hj
    subst hj
    rw [← Nat.add_assoc]
    exact h3

section
variable {H : Type} {enc : TypeId × Value → H} {W : World} {base b0 : Nat} {spare : Nat → Bool} {held : Bool} {r : Reach} {v : Value} {d : DataW H} {p : List MemPlace}
theorem u8_of {n : Nat} {c : Value} {x : DataW H × List MemPlace} (h : DataW.trod enc Tryd.prog W base spare held n 5 [c] = some x) : ∃ a : Int, c = .int .u8 a ∧ 0 ≤ a ∧ a ≤ 255 := by
  obtain ⟨a, ea, _, wa⟩ := DataW.trod_int Tryd.underlying5 h
  simp at ea
  exact ⟨a, ea, by simpa [Lit.wf, IntKind.min, IntKind.max, IntKind.signed, IntKind.bits] using wa⟩
theorem u16_of {n : Nat} {c : Value} {x : DataW H × List MemPlace} (h : DataW.trod enc Tryd.prog W base spare held n 22 [c] = some x) : ∃ a : Int, c = .int .u16 a ∧ 0 ≤ a ∧ a ≤ 65535 := by
  obtain ⟨a, ea, _, wa⟩ := DataW.trod_int Tryd.underlying22 h
  simp at ea
  exact ⟨a, ea, by simpa [Lit.wf, IntKind.min, IntKind.max, IntKind.signed, IntKind.bits] using wa⟩
theorem int_of {n : Nat} {c : Value} {x : DataW H × List MemPlace} (h : DataW.trod enc Tryd.prog W base spare held n 3 [c] = some x) : ∃ a : Int, c = .int .i64 a := by
  obtain ⟨a, ea, _, wa⟩ := DataW.trod_int Tryd.underlying3 h
  simp at ea
  exact ⟨a, ea⟩
theorem str_of {n : Nat} {c : Value} {x : DataW H × List MemPlace} (h : DataW.trod enc Tryd.prog W base spare held n 9 [c] = some x) : ∃ s : ByteArray, c = .string s ∧ s.size ≤ 9223372036854775807 := by
  obtain ⟨s, ea, _, hs⟩ := DataW.trod_string Tryd.underlying9 h
  simp at ea
  exact ⟨s, ea, by unfold maxLen at hs; omega⟩
theorem wrap_of {n : Nat} {c0 c1 c2 c3 : Value} {x : DataW H × List MemPlace} (h : DataW.trod enc Tryd.prog W base spare held n 24 [c0, c1, c2, c3] = some x) : ∃ t : Wr, t.ok ∧ c0 = .int .u8 t.k ∧ c1 = .int .u16 t.m ∧ c2 = .int .i64 t.n ∧ c3 = .string t.s := by
  obtain ⟨xs, n, _, _, _, hlen, hF⟩ := DataW.trod_struct Tryd.underlying24 h
  match xs, hlen with
  | [y0, y1, y2, y3], _ =>
    have h0 := hF 0 _ rfl
    have h1 := hF 1 _ rfl
    have h2 := hF 2 _ rfl
    have h3 := hF 3 _ rfl
    simp [cells_u8, cells_u16, cells_int, cells_string] at h0 h1 h2 h3
    obtain ⟨a, rfl, wa⟩ := u8_of h0
    obtain ⟨b, rfl, wb⟩ := u16_of h1
    obtain ⟨c, rfl⟩ := int_of h2
    obtain ⟨s, rfl, ws⟩ := str_of h3
    exact ⟨⟨a, b, c, s⟩, ⟨wa, wb, ws⟩, rfl, rfl, rfl, rfl⟩
theorem open_wrap (hv : Value.okWide Tryd.prog W r b0 24 v) (h : DataW.Trod enc Tryd.prog W base spare held 24 v d p) : ∃ t : Wr, t.ok ∧ v = .agg #[.int .u8 t.k, .int .u16 t.m, .int .i64 t.n, .string t.s] := by
  obtain ⟨⟨l⟩, rfl, hsz⟩ := okWide_struct Tryd.underlying24 hv
  obtain ⟨fuel, hf⟩ := h
  match l, hsz.trans cells_wrap with
  | [c0, c1, c2, c3], _ =>
    simp [Value.cells] at hf
    obtain ⟨t, ht, rfl, rfl, rfl, rfl⟩ := wrap_of hf
    exact ⟨t, ht, rfl⟩
theorem open_u16 (hv : Value.okWide Tryd.prog W r b0 22 v) (h : DataW.Trod enc Tryd.prog W base spare held 22 v d p) : ∃ a : Int, v = .int .u16 a ∧ 0 ≤ a ∧ a ≤ 65535 := by
  obtain ⟨a, rfl, _, _, wa⟩ := open_int Tryd.underlying22 hv h
  exact ⟨a, rfl, by simpa [Lit.wf, IntKind.min, IntKind.max, IntKind.signed, IntKind.bits] using wa⟩
theorem open_wraps (hv : Value.okWide Tryd.prog W r b0 25 v) (h : DataW.Trod enc Tryd.prog W base spare held 25 v d p) :
    ∃ (A : Option Addr) (c : Nat) (L : List Wr), v = .slice A L.length c ∧ (∀ t ∈ L, t.ok) ∧ At W.heap.size W A (wrs L) ∧ L.length ≤ c ∧ c ≤ maxLen := by
  obtain ⟨a0, len, cap, rfl⟩ := okWide_slice Tryd.underlying25 hv
  obtain ⟨fuel, hf⟩ := h
  rcases Go.Deep.open_slice Tryd.underlying25 hf with ⟨hc, _⟩ | ⟨a, len', cap', m, n, D, Pl, hc, _, hle, hcap, hm, _, hel⟩
  · simp [Value.cells] at hc
    obtain ⟨rfl, rfl, rfl⟩ := hc
    exact ⟨none, 0, [], rfl, (fun t ht => by cases ht), (fun h => by simp [wrs] at h), Nat.le_refl _, Nat.zero_le _⟩
  · simp [Value.cells] at hc
    obtain ⟨rfl, rfl, rfl⟩ := hc
    rw [cells_wrap] at hel
    have hlm : len ≤ m := by
      rw [hm]
      split <;> omega
    have hall : ∀ i, i < len → ∃ t : Wr, t.ok ∧ W.cell? (a.add (i * 4)) = some (.int .u8 t.k) ∧ W.cell? ((a.add (i * 4)).add 1) = some (.int .u16 t.m) ∧ W.cell? ((a.add (i * 4)).add 2) = some (.int .i64 t.n) ∧ W.cell? ((a.add (i * 4)).add 3) = some (.string t.s) := fun i hi => by
      obtain ⟨cs, h1, h2⟩ := hel i (by omega)
      obtain ⟨_, hl, hc⟩ := World.cells?_some h1
      match cs, hl with
      | [c0, c1, c2, c3], _ =>
        obtain ⟨t, ht, rfl, rfl, rfl, rfl⟩ := wrap_of h2
        exact ⟨t, ht, by simpa [Addr.add] using hc 0 (by omega), by simpa using hc 1 (by omega), by simpa using hc 2 (by omega), by simpa using hc 3 (by omega)⟩
    have : Inhabited Wr := ⟨⟨0, 0, 0, ⟨#[]⟩⟩⟩
    obtain ⟨f, hf⟩ := Go.Deep.choose_lt hall
    refine ⟨some a, cap, (List.range len).map f, by simp, fun t ht => ?_, ?_, by simpa using hle, hcap⟩
    · obtain ⟨i, hi, rfl⟩ := List.mem_map.1 ht
      exact (hf i (List.mem_range.1 hi)).1
    intro hpos
    have hlen : 0 < len := by
      rw [wrs_len, List.length_map, List.length_range] at hpos
      omega
    have h0 := (hf 0 hlen).2.1
    have ha : a = ⟨a.block, a.off, none⟩ := by
      have := cell_spot h0
      simpa [Addr.add] using this
    generalize a.block = g, a.off = o at ha
    subst ha
    refine At.of_wr (World.block_lt_of_cell? _ _ (by simpa [Addr.add] using h0)) (fun k hk => ?_) hpos
    have hk' : k < len := by simpa using hk
    have := (hf k hk').2
    simp only [add_none] at this
    simpa using this
end
end Go.Proofs.YtfieldhlgipimaaDoor
