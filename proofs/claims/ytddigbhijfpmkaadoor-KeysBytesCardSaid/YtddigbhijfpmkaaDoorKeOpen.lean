/- Layer 21: how keys, texts, numbers, rows of texts and of keys that come in read; their bytes. -/
import Derived.Test.YtddigbhijfpmkaaDoorRows
import Derived.Test.YtddigbhijfpmkaaDoorKeM
import Derived.Test.YtddigbhijfpmkaaDoorKeD
import Derived.ProofKit
import Derived.OpenShut
import Derived.ChangeOld
import Derived.Carry
import Derived.Deep.Strs
import Derived.ChangeMaps5
import Derived.SizedLaws
namespace Go.Proofs.YtddigbhijfpmkaaDoor
set_option linter.unusedVariables false
set_option linter.unusedSimpArgs false
set_option maxRecDepth 100000
open Go.ChangeShapes Go.WideShapes Go.ChangeAt Go.RowKit

theorem own : ownKnob Tryd.prog.godebug = none := by kernel_rfl
theorem laidOut : laidOutB Tryd.prog = true := by kernel_rfl
theorem cells_u8 : Tryd.prog.cellsOf 5 = 1 := by kernel_rfl
theorem cells_string : Tryd.prog.cellsOf 9 = 1 := by kernel_rfl
theorem cells_key : Tryd.prog.cellsOf 31 = 2 := by kernel_rfl
theorem bytes_key : Tryd.prog.bytesOf 31 = 24 := by kernel_rfl
theorem bytes_string : Tryd.prog.bytesOf 9 = 16 := by kernel_rfl
theorem bytes_of {H : Type} {P : Program} {ts : List TypeId} {ds : List (DataW H)} (h : (DataW.weightsEach P ts ds).all (· ≤ reachBytes) = true) {j n b : Nat} {t e : TypeId} {d : DataW H} (ht : ts[j]? = some t) (hd : ds[j]? = some d) (hu : P.underlying t = some (.slice e)) (hb : P.bytesOf e = b)
    (hc : n = 0 ∨ ∃ es sp, d = .slice es sp ∧ es.length = n) : n * b ≤ 140737488351232 := by
  have : n * b ≤ reachBytes := by
    rcases hc with rfl | ⟨es, sp, rfl, rfl⟩
    · rw [Nat.zero_mul]
      exact Nat.zero_le _
    · have := sized_slice h ht hd hu
      rw [hb] at this
      exact Nat.le_trans (Nat.mul_le_mul_right b (Nat.le_add_right _ _)) this
  exact this
theorem add_none {g o : Nat} (i : Nat) : (⟨g, o, none⟩ : Addr).add i = ⟨g, o + i, none⟩ := by
  unfold Addr.add
  split
  · rename_i h
    simp [h]
  · rfl
theorem cell_spot {w : World} {a : Addr} {v : Value} (h : w.cell? a = some v) : a = ⟨a.block, a.off, none⟩ := by
  obtain ⟨g, o, s⟩ := a
  cases s with
  | none => rfl
  | some s =>
    unfold World.cell? at h
    split at h
    · simp at h
    · cases h
theorem At.of_ky {B : Nat} {w : World} {g o : Nat} {L : List Ky} (hg : g < B) (h : ∀ k, (hk : k < L.length) → w.cell? ⟨g, o + k * 2, none⟩ = some (.string ⟨L[k].nm.toArray⟩) ∧ w.cell? ⟨g, o + k * 2 + 1, none⟩ = some (.int .u8 (L[k].md : Int))) : At B w (some ⟨g, o, none⟩) (kys L) := by
  intro _
  refine ⟨g, o, rfl, hg, fun j v hj => ?_⟩
  have hj' : j < L.length * 2 := by
    rw [← kys_len]
    exact (List.getElem?_eq_some_iff.1 hj).1
  have hkl : j / 2 < L.length := by omega
  obtain ⟨k0, k1⟩ := kys_at L (j / 2) hkl
  obtain ⟨h0, h1⟩ := h (j / 2) hkl
  rcases Nat.mod_two_eq_zero_or_one j with hm | hm
  · have e : j = j / 2 * 2 := by omega
    rw [e] at hj ⊢
    rw [k0] at hj
    rw [← hj]
    exact h0
  · have e : j = j / 2 * 2 + 1 := by omega
    rw [e] at hj ⊢
    rw [k1] at hj
    rw [← hj, ← Nat.add_assoc]
    exact h1
theorem At.of_st {B : Nat} {w : World} {g o : Nat} {L : List By} (hg : g < B) (h : ∀ k, (hk : k < L.length) → w.cell? ⟨g, o + k, none⟩ = some (.string ⟨L[k].toArray⟩)) : At B w (some ⟨g, o, none⟩) (strs L) := by
  intro _
  refine ⟨g, o, rfl, hg, fun j v hj => ?_⟩
  have hj' : j < L.length := by
    rw [← strs_len]
    exact (List.getElem?_eq_some_iff.1 hj).1
  rw [strs_at L j hj'] at hj
  rw [← hj]
  exact h j hj'
section
variable {H : Type} {enc : TypeId × Value → H} {W : World} {base b0 : Nat} {spare : Nat → Bool} {held : Bool} {r : Reach} {v : Value} {d : DataW H} {p : List MemPlace}
theorem u8_of {n : Nat} {c : Value} {x : DataW H × List MemPlace} (h : DataW.trod enc Tryd.prog W base spare held n 5 [c] = some x) : ∃ a : Nat, c = .int .u8 (a : Int) ∧ a < 256 := by
  obtain ⟨a, ea, _, wa⟩ := DataW.trod_int Tryd.underlying5 h
  simp at ea
  have hb : 0 ≤ a ∧ a ≤ 255 := by simpa [Lit.wf, IntKind.min, IntKind.max, IntKind.signed, IntKind.bits] using wa
  obtain ⟨m, rfl⟩ := Int.eq_ofNat_of_zero_le hb.1
  exact ⟨m, ea, by omega⟩
theorem str_of {n : Nat} {c : Value} {x : DataW H × List MemPlace} (h : DataW.trod enc Tryd.prog W base spare held n 9 [c] = some x) : ∃ s : ByteArray, c = .string s ∧ s.size ≤ 9223372036854775807 := by
  obtain ⟨s, ea, _, hs⟩ := DataW.trod_string Tryd.underlying9 h
  simp at ea
  exact ⟨s, ea, by unfold maxLen at hs; omega⟩
theorem key_of {n : Nat} {c0 c1 : Value} {x : DataW H × List MemPlace} (h : DataW.trod enc Tryd.prog W base spare held n 31 [c0, c1] = some x) : ∃ (s : ByteArray) (m : Nat), c0 = .string s ∧ c1 = .int .u8 (m : Int) ∧ s.size ≤ 9223372036854775807 ∧ m < 256 := by
  obtain ⟨xs, n, _, _, _, hlen, hF⟩ := DataW.trod_struct Tryd.underlying31 h
  match xs, hlen with
  | [y0, y1], _ =>
    have h0 := hF 0 _ rfl
    have h1 := hF 1 _ rfl
    simp [cells_u8, cells_string] at h0 h1
    obtain ⟨s, rfl, ws⟩ := str_of h0
    obtain ⟨a, rfl, wa⟩ := u8_of h1
    exact ⟨s, a, rfl, rfl, ws, wa⟩
theorem open_key (hv : Value.okWide Tryd.prog W r b0 31 v) (h : DataW.Trod enc Tryd.prog W base spare held 31 v d p) : ∃ (s : ByteArray) (m : Nat), v = .agg #[.string s, .int .u8 (m : Int)] ∧ s.size ≤ 9223372036854775807 ∧ m < 256 := by
  obtain ⟨⟨l⟩, rfl, hsz⟩ := okWide_struct Tryd.underlying31 hv
  obtain ⟨fuel, hf⟩ := h
  match l, hsz.trans cells_key with
  | [c0, c1], _ =>
    simp [Value.cells] at hf
    obtain ⟨s, m, rfl, rfl, hs, hm⟩ := key_of hf
    exact ⟨s, m, rfl, hs, hm⟩
theorem open_text (hv : Value.okWide Tryd.prog W r b0 9 v) (h : DataW.Trod enc Tryd.prog W base spare held 9 v d p) : ∃ s : ByteArray, v = .string s ∧ s.size ≤ 9223372036854775807 := by
  obtain ⟨s, rfl, _, _, hs⟩ := Go.ChangeMaps.open_string Tryd.underlying9 hv h
  exact ⟨s, rfl, by unfold maxLen at hs; omega⟩
theorem open_num (hv : Value.okWide Tryd.prog W r b0 3 v) (h : DataW.Trod enc Tryd.prog W base spare held 3 v d p) : ∃ a : Int, v = .int .i64 a ∧ -9223372036854775808 ≤ a ∧ a ≤ 9223372036854775807 := by
  obtain ⟨a, rfl, _, _, wa⟩ := open_int Tryd.underlying3 hv h
  have hb : -9223372036854775808 ≤ a ∧ a ≤ 9223372036854775807 := by simpa [Lit.wf, IntKind.min, IntKind.max, IntKind.signed, IntKind.bits] using wa
  exact ⟨a, rfl, hb.1, hb.2⟩
theorem open_keys (hv : Value.okWide Tryd.prog W r b0 23 v) (h : DataW.Trod enc Tryd.prog W base spare held 23 v d p) :
    ∃ (A : Option Addr) (c : Nat) (L : List Ky), v = .slice A L.length c ∧ (∀ k ∈ L, k.nm.length ≤ 9223372036854775807 ∧ k.md < 256) ∧ At W.heap.size W A (kys L) ∧ (A = none → L.length = 0 ∧ c = 0) ∧ (L.length = 0 ∨ ∃ es sp, d = .slice es sp ∧ es.length = L.length) := by
  obtain ⟨a0, len, cap, rfl⟩ := okWide_slice Tryd.underlying23 hv
  obtain ⟨fuel, hf⟩ := h
  rcases Go.Deep.open_slice Tryd.underlying23 hf with ⟨hc, _⟩ | ⟨a, len', cap', m, n, D, Pl, hc, _, hle, hcap, hm, hdt, hel⟩
  · simp [Value.cells] at hc
    obtain ⟨rfl, rfl, rfl⟩ := hc
    exact ⟨none, 0, [], rfl, (fun t ht => by cases ht), (fun h => by simp [kys] at h), fun _ => ⟨rfl, rfl⟩, .inl rfl⟩
  · simp [Value.cells] at hc
    obtain ⟨rfl, rfl, rfl⟩ := hc
    rw [cells_key] at hel
    have hlm : len ≤ m := by
      rw [hm]
      split <;> omega
    have hall : ∀ i, i < len → ∃ t : Ky, (t.nm.length ≤ 9223372036854775807 ∧ t.md < 256) ∧ W.cell? (a.add (i * 2)) = some (.string ⟨t.nm.toArray⟩) ∧ W.cell? ((a.add (i * 2)).add 1) = some (.int .u8 (t.md : Int)) := fun i hi => by
      obtain ⟨cs, h1, h2⟩ := hel i (by omega)
      obtain ⟨_, hl, hc⟩ := World.cells?_some h1
      match cs, hl with
      | [c0, c1], _ =>
        obtain ⟨s, m, rfl, rfl, hs, hm⟩ := key_of h2
        exact ⟨⟨s.data.toList, m⟩, ⟨by rw [ba_len]; exact hs, hm⟩, by rw [ba_mk]; simpa [Addr.add] using hc 0 (by omega), by simpa using hc 1 (by omega)⟩
    have : Inhabited Ky := ⟨⟨[], 0⟩⟩
    obtain ⟨f, hf⟩ := Go.Deep.choose_lt hall
    have hd : d = .slice ((List.range len).map D) ((List.range (m - len)).map fun j => D (len + j)) := congrArg Prod.fst hdt
    refine ⟨some a, cap, (List.range len).map f, by simp, fun t ht => ?_, ?_, (fun h => by cases h), .inr ⟨_, _, hd, by simp⟩⟩
    · obtain ⟨i, hi, rfl⟩ := List.mem_map.1 ht
      exact (hf i (List.mem_range.1 hi)).1
    intro hpos
    have hlen : 0 < len := by
      rw [kys_len, List.length_map, List.length_range] at hpos
      omega
    have h0 := (hf 0 hlen).2.1
    have ha : a = ⟨a.block, a.off, none⟩ := by
      have := cell_spot h0
      simpa [Addr.add] using this
    generalize a.block = g, a.off = o at ha
    subst ha
    refine At.of_ky (World.block_lt_of_cell? _ _ (by simpa [Addr.add] using h0)) (fun k hk => ?_) hpos
    have hk' : k < len := by simpa using hk
    have := (hf k hk').2
    simp only [add_none] at this
    simpa using this
theorem open_strs (hv : Value.okWide Tryd.prog W r b0 38 v) (h : DataW.Trod enc Tryd.prog W base spare held 38 v d p) :
    ∃ (A : Option Addr) (c : Nat) (L : List By), v = .slice A L.length c ∧ At W.heap.size W A (strs L) ∧ (A = none → L.length = 0 ∧ c = 0) ∧ (L.length = 0 ∨ ∃ es sp, d = .slice es sp ∧ es.length = L.length) := by
  obtain ⟨a0, len, cap, rfl⟩ := okWide_slice Tryd.underlying38 hv
  obtain ⟨fuel, hf⟩ := h
  rcases Go.Deep.open_slice Tryd.underlying38 hf with ⟨hc, _⟩ | ⟨a, len', cap', m, n, D, Pl, hc, _, hle, hcap, hm, hdt, hel⟩
  · simp [Value.cells] at hc
    obtain ⟨rfl, rfl, rfl⟩ := hc
    exact ⟨none, 0, [], rfl, (fun h => by simp [strs] at h), fun _ => ⟨rfl, rfl⟩, .inl rfl⟩
  · simp [Value.cells] at hc
    obtain ⟨rfl, rfl, rfl⟩ := hc
    rw [cells_string] at hel
    have hlm : len ≤ m := by
      rw [hm]
      split <;> omega
    have hall : ∀ i, i < len → ∃ t : By, W.cell? (a.add i) = some (.string ⟨t.toArray⟩) := fun i hi => by
      obtain ⟨cs, h1, h2⟩ := hel i (by omega)
      obtain ⟨_, hl, hc⟩ := World.cells?_some h1
      match cs, hl with
      | [c0], _ =>
        obtain ⟨s, rfl, hs⟩ := str_of h2
        exact ⟨s.data.toList, by rw [ba_mk]; simpa [Addr.add] using hc 0 (by omega)⟩
    obtain ⟨f, hf⟩ := Go.Deep.choose_lt hall
    have hd : d = .slice ((List.range len).map D) ((List.range (m - len)).map fun j => D (len + j)) := congrArg Prod.fst hdt
    refine ⟨some a, cap, (List.range len).map f, by simp, ?_, (fun h => by cases h), .inr ⟨_, _, hd, by simp⟩⟩
    intro hpos
    have hlen : 0 < len := by
      rw [strs_len, List.length_map, List.length_range] at hpos
      omega
    have h0 := hf 0 hlen
    have ha : a = ⟨a.block, a.off, none⟩ := by
      have := cell_spot h0
      simpa [Addr.add] using this
    generalize a.block = g, a.off = o at ha
    subst ha
    refine At.of_st (World.block_lt_of_cell? _ _ (by simpa [Addr.add] using h0)) (fun k hk => ?_) hpos
    have hk' : k < len := by simpa using hk
    have := hf k hk'
    simp only [add_none] at this
    simpa using this
end
end Go.Proofs.YtddigbhijfpmkaaDoor
