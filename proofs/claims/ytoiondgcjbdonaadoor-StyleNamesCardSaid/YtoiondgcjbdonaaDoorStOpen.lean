/- Layer 5: how looks, texts, bytes and rules that come in read. -/
import Derived.Test.YtoiondgcjbdonaaDoorRows
import Derived.Test.YtoiondgcjbdonaaDoorStR
import Derived.Test.YtoiondgcjbdonaaDoorStI
import Derived.ProofKit
import Derived.OpenShut
import Derived.ChangeOld
import Derived.Carry
import Derived.Deep.Strs
import Derived.ChangeMaps5
namespace Go.Proofs.YtoiondgcjbdonaaDoor
set_option linter.unusedVariables false
set_option linter.unusedSimpArgs false
set_option maxRecDepth 100000
open Go.ChangeShapes Go.WideShapes Go.ChangeAt Go.RowKit

theorem own : ownKnob Tryd.prog.godebug = none := by kernel_rfl
theorem laidOut : laidOutB Tryd.prog = true := by kernel_rfl
theorem cells_u8 : Tryd.prog.cellsOf 5 = 1 := by kernel_rfl
theorem cells_bool : Tryd.prog.cellsOf 4 = 1 := by kernel_rfl
theorem cells_int : Tryd.prog.cellsOf 3 = 1 := by kernel_rfl
theorem cells_string : Tryd.prog.cellsOf 9 = 1 := by kernel_rfl
theorem cells_colour : Tryd.prog.cellsOf 30 = 4 := by kernel_rfl
theorem cells_look : Tryd.prog.cellsOf 32 = 11 := by kernel_rfl
theorem cells_rule : Tryd.prog.cellsOf 46 = 14 := by kernel_rfl

theorem add_none {g o : Nat} (i : Nat) : (⟨g, o, none⟩ : Addr).add i = ⟨g, o + i, none⟩ := by
  unfold Addr.add
  split
  · rename_i h
    simp [h]
  · rfl
theorem cell_spot {w : World} {a : Addr} {v : Value} (h : w.cell? a = some v) : a = ⟨a.block, a.off, none⟩ := by
  obtain ⟨g, o, s⟩ := a
  cases s with
  | none => rfl
  | some s =>
    unfold World.cell? at h
    split at h
    · simp at h
    · cases h
theorem At.of_ru {B : Nat} {w : World} {g o : Nat} {L : List Ru} (hg : g < B) (h : ∀ k, (hk : k < L.length) → ∀ j v, (ruC L[k])[j]? = some v → w.cell? ⟨g, o + k * 14 + j, none⟩ = some v) : At B w (some ⟨g, o, none⟩) (rus L) := by
  intro _
  refine ⟨g, o, rfl, hg, fun j v hj => ?_⟩
  have hj' : j < L.length * 14 := by
    rw [← rus_len]
    exact (List.getElem?_eq_some_iff.1 hj).1
  have hkl : j / 14 < L.length := by omega
  have e : j = j / 14 * 14 + j % 14 := by omega
  rw [e, rus_at L (j / 14) (j % 14) hkl (by omega)] at hj
  have := h (j / 14) hkl (j % 14) v hj
  rw [e, ← Nat.add_assoc]
  exact this

section
variable {H : Type} {enc : TypeId × Value → H} {W : World} {base b0 : Nat} {spare : Nat → Bool} {held : Bool} {r : Reach} {v : Value} {d : DataW H} {p : List MemPlace}
theorem u8_of {n : Nat} {c : Value} {x : DataW H × List MemPlace} (h : DataW.trod enc Tryd.prog W base spare held n 5 [c] = some x) : ∃ a : Nat, c = .int .u8 (a : Int) ∧ a < 256 := by
  obtain ⟨a, ea, _, wa⟩ := DataW.trod_int Tryd.underlying5 h
  simp at ea
  have hb : 0 ≤ a ∧ a ≤ 255 := by simpa [Lit.wf, IntKind.min, IntKind.max, IntKind.signed, IntKind.bits] using wa
  obtain ⟨m, rfl⟩ := Int.eq_ofNat_of_zero_le hb.1
  exact ⟨m, ea, by omega⟩
theorem int_of {n : Nat} {c : Value} {x : DataW H × List MemPlace} (h : DataW.trod enc Tryd.prog W base spare held n 3 [c] = some x) : ∃ a : Int, c = .int .i64 a := by
  obtain ⟨a, ea, _, wa⟩ := DataW.trod_int Tryd.underlying3 h
  simp at ea
  exact ⟨a, ea⟩
theorem bool_of {n : Nat} {c : Value} {x : DataW H × List MemPlace} (h : DataW.trod enc Tryd.prog W base spare held n 4 [c] = some x) : ∃ a : Bool, c = .bool a := by
  obtain ⟨a, ea, _⟩ := DataW.trod_bool Tryd.underlying4 h
  simp at ea
  exact ⟨a, ea⟩
theorem str_of {n : Nat} {c : Value} {x : DataW H × List MemPlace} (h : DataW.trod enc Tryd.prog W base spare held n 9 [c] = some x) : ∃ s : ByteArray, c = .string s ∧ s.size ≤ 9223372036854775807 := by
  obtain ⟨s, ea, _, hs⟩ := DataW.trod_string Tryd.underlying9 h
  simp at ea
  exact ⟨s, ea, by unfold maxLen at hs; omega⟩
theorem colour_of {n : Nat} {c0 c1 c2 c3 : Value} {x : DataW H × List MemPlace} (h : DataW.trod enc Tryd.prog W base spare held n 30 [c0, c1, c2, c3] = some x) : ∃ t : Cl, t.In ∧ c0 = .int .u8 (t.r : Int) ∧ c1 = .int .u8 (t.g : Int) ∧ c2 = .int .u8 (t.b : Int) ∧ c3 = .int .u8 (t.a : Int) := by
  obtain ⟨xs, n, _, _, _, hlen, hF⟩ := DataW.trod_struct Tryd.underlying30 h
  match xs, hlen with
  | [y0, y1, y2, y3], _ =>
    have h0 := hF 0 _ rfl
    have h1 := hF 1 _ rfl
    have h2 := hF 2 _ rfl
    have h3 := hF 3 _ rfl
    simp [cells_u8] at h0 h1 h2 h3
    obtain ⟨a, rfl, wa⟩ := u8_of h0
    obtain ⟨b, rfl, wb⟩ := u8_of h1
    obtain ⟨c, rfl, wc⟩ := u8_of h2
    obtain ⟨d, rfl, wd⟩ := u8_of h3
    exact ⟨⟨a, b, c, d⟩, ⟨wa, wb, wc, wd⟩, rfl, rfl, rfl, rfl⟩
theorem look_of {n : Nat} {c0 c1 c2 c3 c4 c5 c6 c7 c8 c9 c10 : Value} {x : DataW H × List MemPlace} (h : DataW.trod enc Tryd.prog W base spare held n 32 [c0, c1, c2, c3, c4, c5, c6, c7, c8, c9, c10] = some x) : ∃ t : Lk, t.In ∧ [c0, c1, c2, c3, c4, c5, c6, c7, c8, c9, c10] = lkC t := by
  obtain ⟨xs, n, _, _, _, hlen, hF⟩ := DataW.trod_struct Tryd.underlying32 h
  match xs, hlen with
  | [y0, y1, y2, y3, y4], _ =>
    have h0 := hF 0 _ rfl
    have h1 := hF 1 _ rfl
    have h2 := hF 2 _ rfl
    have h3 := hF 3 _ rfl
    have h4 := hF 4 _ rfl
    simp [cells_u8, cells_colour, cells_bool, cells_int] at h0 h1 h2 h3 h4
    obtain ⟨a, rfl, wa⟩ := u8_of h0
    obtain ⟨k, hk, rfl, rfl, rfl, rfl⟩ := colour_of h1
    obtain ⟨l, hl, rfl, rfl, rfl, rfl⟩ := colour_of h2
    obtain ⟨b, rfl⟩ := bool_of h3
    obtain ⟨i, rfl⟩ := int_of h4
    exact ⟨⟨a, k, l, b, i⟩, ⟨wa, hk, hl⟩, rfl⟩
theorem rule_of {n : Nat} {c0 c1 c2 c3 c4 c5 c6 c7 c8 c9 c10 c11 c12 c13 : Value} {x : DataW H × List MemPlace} (h : DataW.trod enc Tryd.prog W base spare held n 46 [c0, c1, c2, c3, c4, c5, c6, c7, c8, c9, c10, c11, c12, c13] = some x) : ∃ t : Ru, t.In ∧ [c0, c1, c2, c3, c4, c5, c6, c7, c8, c9, c10, c11, c12, c13] = ruC t := by
  obtain ⟨xs, n, _, _, _, hlen, hF⟩ := DataW.trod_struct Tryd.underlying46 h
  match xs, hlen with
  | [y0, y1, y2, y3], _ =>
    have h0 := hF 0 _ rfl
    have h1 := hF 1 _ rfl
    have h2 := hF 2 _ rfl
    have h3 := hF 3 _ rfl
    simp [cells_u8, cells_string, cells_look] at h0 h1 h2 h3
    obtain ⟨a, rfl, wa⟩ := u8_of h0
    obtain ⟨s, rfl, ws⟩ := str_of h1
    obtain ⟨b, rfl, wb⟩ := u8_of h2
    obtain ⟨l, hl, e⟩ := look_of h3
    refine ⟨⟨a, s, b, l⟩, ⟨wa, wb, hl, ws⟩, ?_⟩
    unfold ruC
    rw [← e]
theorem open_look (hv : Value.okWide Tryd.prog W r b0 32 v) (h : DataW.Trod enc Tryd.prog W base spare held 32 v d p) : ∃ t : Lk, v = lkV t ∧ t.In := by
  obtain ⟨⟨l⟩, rfl, hsz⟩ := okWide_struct Tryd.underlying32 hv
  obtain ⟨fuel, hf⟩ := h
  match l, hsz.trans cells_look with
  | [c0, c1, c2, c3, c4, c5, c6, c7, c8, c9, c10], _ =>
    simp [Value.cells] at hf
    obtain ⟨t, ht, e⟩ := look_of hf
    refine ⟨t, ?_, ht⟩
    rw [e]
    rfl
theorem open_rule (hv : Value.okWide Tryd.prog W r b0 46 v) (h : DataW.Trod enc Tryd.prog W base spare held 46 v d p) : ∃ t : Ru, v = .agg (ruC t).toArray ∧ t.In := by
  obtain ⟨⟨l⟩, rfl, hsz⟩ := okWide_struct Tryd.underlying46 hv
  obtain ⟨fuel, hf⟩ := h
  match l, hsz.trans cells_rule with
  | [c0, c1, c2, c3, c4, c5, c6, c7, c8, c9, c10, c11, c12, c13], _ =>
    simp [Value.cells] at hf
    obtain ⟨t, ht, e⟩ := rule_of hf
    refine ⟨t, ?_, ht⟩
    rw [e]
theorem open_u8 (hv : Value.okWide Tryd.prog W r b0 5 v) (h : DataW.Trod enc Tryd.prog W base spare held 5 v d p) : ∃ a : Nat, v = .int .u8 (a : Int) ∧ a < 256 := by
  obtain ⟨a, rfl, _, _, wa⟩ := open_int Tryd.underlying5 hv h
  have hb : 0 ≤ a ∧ a ≤ 255 := by simpa [Lit.wf, IntKind.min, IntKind.max, IntKind.signed, IntKind.bits] using wa
  obtain ⟨m, rfl⟩ := Int.eq_ofNat_of_zero_le hb.1
  exact ⟨m, rfl, by omega⟩
theorem open_text (hv : Value.okWide Tryd.prog W r b0 9 v) (h : DataW.Trod enc Tryd.prog W base spare held 9 v d p) : ∃ s : ByteArray, v = .string s ∧ s.size ≤ 9223372036854775807 := by
  obtain ⟨s, rfl, _, _, hs⟩ := Go.ChangeMaps.open_string Tryd.underlying9 hv h
  exact ⟨s, rfl, by unfold maxLen at hs; omega⟩
theorem open_rules (hv : Value.okWide Tryd.prog W r b0 22 v) (h : DataW.Trod enc Tryd.prog W base spare held 22 v d p) :
    ∃ (A : Option Addr) (c : Nat) (L : List Ru), v = .slice A L.length c ∧ (∀ t ∈ L, t.In) ∧ At W.heap.size W A (rus L) ∧ (A = none → L.length = 0 ∧ c = 0) ∧ L.length ≤ c ∧ c ≤ maxLen := by
  obtain ⟨a0, len, cap, rfl⟩ := okWide_slice Tryd.underlying22 hv
  obtain ⟨fuel, hf⟩ := h
  rcases Go.Deep.open_slice Tryd.underlying22 hf with ⟨hc, _⟩ | ⟨a, len', cap', m, n, D, Pl, hc, _, hle, hcap, hm, _, hel⟩
  · simp [Value.cells] at hc
    obtain ⟨rfl, rfl, rfl⟩ := hc
    exact ⟨none, 0, [], rfl, (fun t ht => by cases ht), (fun h => by simp [rus] at h), fun _ => ⟨rfl, rfl⟩, Nat.le_refl _, Nat.zero_le _⟩
  · simp [Value.cells] at hc
    obtain ⟨rfl, rfl, rfl⟩ := hc
    rw [cells_rule] at hel
    have hlm : len ≤ m := by
      rw [hm]
      split <;> omega
    have hall : ∀ i, i < len → ∃ t : Ru, t.In ∧ ∀ j v, (ruC t)[j]? = some v → W.cell? ((a.add (i * 14)).add j) = some v := fun i hi => by
      obtain ⟨cs, h1, h2⟩ := hel i (by omega)
      obtain ⟨_, hl, hc⟩ := World.cells?_some h1
      match cs, hl with
      | [c0, c1, c2, c3, c4, c5, c6, c7, c8, c9, c10, c11, c12, c13], _ =>
        obtain ⟨t, ht, e⟩ := rule_of h2
        rw [e] at hc
        refine ⟨t, ht, fun j v hj => ?_⟩
        exact (hc j (List.getElem?_eq_some_iff.1 hj).1).trans hj
    have : Inhabited Ru := ⟨⟨0, ⟨#[]⟩, 0, Lk.none⟩⟩
    obtain ⟨f, hf⟩ := Go.Deep.choose_lt hall
    refine ⟨some a, cap, (List.range len).map f, by simp, fun t ht => ?_, ?_, (fun h => by cases h), by simpa using hle, hcap⟩
    · obtain ⟨i, hi, rfl⟩ := List.mem_map.1 ht
      exact (hf i (List.mem_range.1 hi)).1
    intro hpos
    have hlen : 0 < len := by
      rw [rus_len, List.length_map, List.length_range] at hpos
      omega
    have h0 := (hf 0 hlen).2 0 _ rfl
    have ha : a = ⟨a.block, a.off, none⟩ := by
      have := cell_spot h0
      simpa [Addr.add] using this
    generalize a.block = g, a.off = o at ha
    subst ha
    refine At.of_ru (World.block_lt_of_cell? _ _ (by simpa [Addr.add] using h0)) (fun k hk j v hj => ?_) hpos
    have hk' : k < len := by simpa using hk
    have := (hf k hk').2 j v (by simpa using hj)
    simp only [add_none] at this
    exact this
end
end Go.Proofs.YtoiondgcjbdonaaDoor
