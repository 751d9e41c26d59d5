/- Layer 25: how a row of ops comes in. -/
import Derived.Test.YtcfgpmmclijonaaDoorEdOpen
import Derived.Test.YtcfgpmmclijonaaDoorEdBd
import Derived.OpenShut
import Derived.ChangeOld
import Derived.Carry
import Derived.Deep.Strs
import Derived.ChangeMaps5
namespace Go.Proofs.YtcfgpmmclijonaaDoor
set_option linter.unusedVariables false
set_option linter.unusedSimpArgs false
set_option maxRecDepth 100000
open Go.ChangeShapes Go.WideShapes Go.ChangeAt Go.RowKit Go.Lib Go.Shelf

theorem cells_u8 : Tryd.prog.cellsOf 5 = 1 := by kernel_rfl
theorem cells_string : Tryd.prog.cellsOf 9 = 1 := by kernel_rfl
theorem cells_int : Tryd.prog.cellsOf 3 = 1 := by kernel_rfl
theorem cells_bool : Tryd.prog.cellsOf 4 = 1 := by kernel_rfl
theorem cells_key : Tryd.prog.cellsOf 41 = 2 := by kernel_rfl
theorem cells_op : Tryd.prog.cellsOf 43 = 6 := by kernel_rfl
theorem add_none {g o : Nat} (i : Nat) : (⟨g, o, none⟩ : Addr).add i = ⟨g, o + i, none⟩ := by
  unfold Addr.add
  split
  · rename_i h
    simp [h]
  · rfl
theorem add_add {a : Addr} {i j : Nat} (h : a = ⟨a.block, a.off, none⟩) : (a.add i).add j = a.add (i + j) := by
  rw [h, add_none, add_none, add_none, Nat.add_assoc]
theorem cell_spot {w : World} {a : Addr} {v : Value} (h : w.cell? a = some v) : a = ⟨a.block, a.off, none⟩ := by
  obtain ⟨g, o, s⟩ := a
  cases s with
  | none => rfl
  | some s =>
    unfold World.cell? at h
    split at h
    · simp at h
    · cases h
theorem At.of_opr {B : Nat} {w : World} {g o : Nat} {L : List Opr} (hg : g < B) (h : ∀ k, (hk : k < L.length) → w.cell? ⟨g, o + k * 6, none⟩ = some (.int .i64 L[k].d) ∧ w.cell? ⟨g, o + k * 6 + 1, none⟩ = some (.string L[k].s) ∧ w.cell? ⟨g, o + k * 6 + 2, none⟩ = some (.string L[k].nm) ∧
    w.cell? ⟨g, o + k * 6 + 3, none⟩ = some (.int .u8 (L[k].md : Int)) ∧ w.cell? ⟨g, o + k * 6 + 4, none⟩ = some (.int .i64 L[k].n) ∧ w.cell? ⟨g, o + k * 6 + 5, none⟩ = some (.bool L[k].keep)) : At B w (some ⟨g, o, none⟩) (oprs L) := by
  intro _
  refine ⟨g, o, rfl, hg, fun j v hj => ?_⟩
  have hj' : j < L.length * 6 := by
    rw [← oprs_len]
    exact (List.getElem?_eq_some_iff.1 hj).1
  have hkl : j / 6 < L.length := by omega
  obtain ⟨k0, k1, k2, k3, k4, k5⟩ := oprs_at L (j / 6) hkl
  obtain ⟨h0, h1, h2, h3, h4, h5⟩ := h (j / 6) hkl
  have hc : j % 6 = 0 ∨ j % 6 = 1 ∨ j % 6 = 2 ∨ j % 6 = 3 ∨ j % 6 = 4 ∨ j % 6 = 5 := by omega
  rcases hc with hm | hm | hm | hm | hm | hm
  · have e : j = j / 6 * 6 := by omega
    rw [e] at hj ⊢
    rw [k0] at hj
    rw [← hj]
    exact h0
  · have e : j = j / 6 * 6 + 1 := by omega
    rw [e] at hj ⊢
    rw [k1] at hj
    rw [← hj, ← Nat.add_assoc]
    exact h1
  · have e : j = j / 6 * 6 + 2 := by omega
    rw [e] at hj ⊢
    rw [k2] at hj
    rw [← hj, ← Nat.add_assoc]
    exact h2
  · have e : j = j / 6 * 6 + 3 := by omega
    rw [e] at hj ⊢
    rw [k3] at hj
    rw [← hj, ← Nat.add_assoc]
    exact h3
  · have e : j = j / 6 * 6 + 4 := by omega
    rw [e] at hj ⊢
    rw [k4] at hj
    rw [← hj, ← Nat.add_assoc]
    exact h4
  · have e : j = j / 6 * 6 + 5 := by omega
    rw [e] at hj ⊢
    rw [k5] at hj
    rw [← hj, ← Nat.add_assoc]
    exact h5
section
variable {H : Type} {enc : TypeId × Value → H} {W : World} {base b0 : Nat} {spare : Nat → Bool} {held : Bool} {r : Reach} {v : Value} {d : DataW H} {p : List MemPlace}
theorem u8_of {n : Nat} {c : Value} {x : DataW H × List MemPlace} (h : DataW.trod enc Tryd.prog W base spare held n 5 [c] = some x) : ∃ a : Nat, c = .int .u8 (a : Int) ∧ a < 256 := by
  obtain ⟨a, ea, _, wa⟩ := DataW.trod_int Tryd.underlying5 h
  simp at ea
  have hb : 0 ≤ a ∧ a ≤ 255 := by simpa [Lit.wf, IntKind.min, IntKind.max, IntKind.signed, IntKind.bits] using wa
  obtain ⟨m, rfl⟩ := Int.eq_ofNat_of_zero_le hb.1
  exact ⟨m, ea, by omega⟩
theorem int_of {n : Nat} {c : Value} {x : DataW H × List MemPlace} (h : DataW.trod enc Tryd.prog W base spare held n 3 [c] = some x) : ∃ a : Int, c = .int .i64 a := by
  obtain ⟨a, ea, _, wa⟩ := DataW.trod_int Tryd.underlying3 h
  simp at ea
  exact ⟨a, ea⟩
theorem bool_of {n : Nat} {c : Value} {x : DataW H × List MemPlace} (h : DataW.trod enc Tryd.prog W base spare held n 4 [c] = some x) : ∃ a : Bool, c = .bool a := by
  obtain ⟨a, ea, _⟩ := DataW.trod_bool Tryd.underlying4 h
  simp at ea
  exact ⟨a, ea⟩
theorem str_of {n : Nat} {c : Value} {x : DataW H × List MemPlace} (h : DataW.trod enc Tryd.prog W base spare held n 9 [c] = some x) : ∃ s : ByteArray, c = .string s := by
  obtain ⟨s, ea, _, hs⟩ := DataW.trod_string Tryd.underlying9 h
  simp at ea
  exact ⟨s, ea⟩
theorem key_of {n : Nat} {c0 c1 : Value} {x : DataW H × List MemPlace} (h : DataW.trod enc Tryd.prog W base spare held n 41 [c0, c1] = some x) : ∃ (s : ByteArray) (m : Nat), c0 = .string s ∧ c1 = .int .u8 (m : Int) := by
  obtain ⟨xs, n, _, _, _, hlen, hF⟩ := DataW.trod_struct Tryd.underlying41 h
  match xs, hlen with
  | [y0, y1], _ =>
    have h0 := hF 0 _ rfl
    have h1 := hF 1 _ rfl
    simp [cells_u8, cells_string] at h0 h1
    obtain ⟨s, rfl⟩ := str_of h0
    obtain ⟨a, rfl, _⟩ := u8_of h1
    exact ⟨s, a, rfl, rfl⟩
theorem op_of {n : Nat} {c0 c1 c2 c3 c4 c5 : Value} {x : DataW H × List MemPlace} (h : DataW.trod enc Tryd.prog W base spare held n 43 [c0, c1, c2, c3, c4, c5] = some x) : ∃ o : Opr, c0 = .int .i64 o.d ∧ c1 = .string o.s ∧ c2 = .string o.nm ∧ c3 = .int .u8 (o.md : Int) ∧ c4 = .int .i64 o.n ∧ c5 = .bool o.keep := by
  obtain ⟨xs, n, _, _, _, hlen, hF⟩ := DataW.trod_struct Tryd.underlying43 h
  match xs, hlen with
  | [y0, y1, y2, y3, y4], _ =>
    have h0 := hF 0 _ rfl
    have h1 := hF 1 _ rfl
    have h2 := hF 2 _ rfl
    have h3 := hF 3 _ rfl
    have h4 := hF 4 _ rfl
    simp [cells_u8, cells_string, cells_key, cells_int, cells_bool] at h0 h1 h2 h3 h4
    obtain ⟨d, rfl⟩ := int_of h0
    obtain ⟨s, rfl⟩ := str_of h1
    obtain ⟨nm, md, rfl, rfl⟩ := key_of h2
    obtain ⟨n, rfl⟩ := int_of h3
    obtain ⟨b, rfl⟩ := bool_of h4
    exact ⟨⟨d, s, nm, md, n, b⟩, rfl, rfl, rfl, rfl, rfl, rfl⟩
theorem open_ops (hv : Value.okWide Tryd.prog W r b0 38 v) (h : DataW.Trod enc Tryd.prog W base spare held 38 v d p) :
    ∃ (A : Option Addr) (c : Nat) (L : List Opr), v = .slice A L.length c ∧ At W.heap.size W A (oprs L) := by
  obtain ⟨a0, len, cap, rfl⟩ := okWide_slice Tryd.underlying38 hv
  obtain ⟨fuel, hf⟩ := h
  rcases Go.Deep.open_slice Tryd.underlying38 hf with ⟨hc, _⟩ | ⟨a, len', cap', m, n, D, Pl, hc, _, hle, hcap, hm, hdt, hel⟩
  · simp [Value.cells] at hc
    obtain ⟨rfl, rfl, rfl⟩ := hc
    exact ⟨none, 0, [], rfl, (fun h => by simp [oprs] at h)⟩
  · simp [Value.cells] at hc
    obtain ⟨rfl, rfl, rfl⟩ := hc
    rw [cells_op] at hel
    have hlm : len ≤ m := by
      rw [hm]
      split <;> omega
    have hall : ∀ i, i < len → ∃ t : Opr, W.cell? (a.add (i * 6)) = some (.int .i64 t.d) ∧ W.cell? ((a.add (i * 6)).add 1) = some (.string t.s) ∧ W.cell? ((a.add (i * 6)).add 2) = some (.string t.nm) ∧ W.cell? ((a.add (i * 6)).add 3) = some (.int .u8 (t.md : Int)) ∧
        W.cell? ((a.add (i * 6)).add 4) = some (.int .i64 t.n) ∧ W.cell? ((a.add (i * 6)).add 5) = some (.bool t.keep) := fun i hi => by
      obtain ⟨cs, h1, h2⟩ := hel i (by omega)
      obtain ⟨_, hl, hc⟩ := World.cells?_some h1
      match cs, hl with
      | [c0, c1, c2, c3, c4, c5], _ =>
        obtain ⟨o, rfl, rfl, rfl, rfl, rfl, rfl⟩ := op_of h2
        exact ⟨o, by simpa [Addr.add] using hc 0 (by omega), by simpa using hc 1 (by omega), by simpa using hc 2 (by omega), by simpa using hc 3 (by omega), by simpa using hc 4 (by omega), by simpa using hc 5 (by omega)⟩
    have : Inhabited Opr := ⟨⟨0, ⟨#[]⟩, ⟨#[]⟩, 0, 0, false⟩⟩
    obtain ⟨f, hf⟩ := Go.Deep.choose_lt hall
    refine ⟨some a, cap, (List.range len).map f, by simp, ?_⟩
    intro hpos
    have hlen : 0 < len := by
      rw [oprs_len, List.length_map, List.length_range] at hpos
      omega
    have h0 := (hf 0 hlen).1
    have ha : a = ⟨a.block, a.off, none⟩ := by
      have := cell_spot h0
      simpa [Addr.add] using this
    generalize a.block = g, a.off = o at ha
    subst ha
    refine At.of_opr (World.block_lt_of_cell? _ _ (by simpa [Addr.add] using h0)) (fun k hk => ?_) hpos
    have hk' : k < len := by simpa using hk
    have := hf k hk'
    simp only [add_none] at this
    simpa using this
end
end Go.Proofs.YtcfgpmmclijonaaDoor
