/- Layer 21: the reference's words and names; whether a key may be, both sides. (Printed by gen_d.py.) -/
import Derived.Test.YtcfgpmmclijonaaDoorKeC
namespace Go.Proofs.YtcfgpmmclijonaaDoor
set_option linter.unusedVariables false
set_option linter.unusedSimpArgs false
set_option maxRecDepth 100000
open Go.RowKit Go.Shelf Go.Lib
set_option maxRecDepth 100000

def strs (L : List By) : List Value := L.map fun l => .string ⟨l.toArray⟩
theorem strs_len (L : List By) : (strs L).length = L.length := by simp [strs]
theorem strs_append (L M : List By) : strs (L ++ M) = strs L ++ strs M := by simp [strs]
theorem strs_at (L : List By) (k : Nat) (h : k < L.length) : (strs L)[k]? = some (.string ⟨L[k].toArray⟩) := by simp [strs, h]
theorem strs_one (L : List By) : ∀ v ∈ strs L, v.oneCell' = true := by
  intro v h
  simp only [strs, List.mem_map] at h
  obtain ⟨a, _, rfl⟩ := h
  rfl
theorem At.st {B : Nat} {w : World} {A : Option Addr} {L : List By} (h : At B w A (strs L)) {k : Nat} (hk : k < L.length) : ∃ g o, A = some ⟨g, o, none⟩ ∧ g < B ∧ w.cell? ⟨g, o + k, none⟩ = some (.string ⟨L[k].toArray⟩) := by
  obtain ⟨g, o, hA, hg, hc⟩ := h (by rw [strs_len]; omega)
  exact ⟨g, o, hA, hg, hc _ _ (strs_at L k hk)⟩
theorem words_len : wordsL.length = 28 := by rfl
theorem words_cells : (#[.string { data := #[101, 110, 116, 101, 114] }, .string { data := #[116, 97, 98] }, .string { data := #[101, 115, 99, 97, 112, 101] }, .string { data := #[115, 112, 97, 99, 101] }, .string { data := #[112, 108, 117, 115] }, .string { data := #[98, 97, 99, 107, 115, 112, 97, 99, 101] }, .string { data := #[100, 101, 108, 101, 116, 101] }, .string { data := #[105, 110, 115, 101, 114, 116] }, .string { data := #[117, 112] }, .string { data := #[100, 111, 119, 110] }, .string { data := #[108, 101, 102, 116] }, .string { data := #[114, 105, 103, 104, 116] }, .string { data := #[104, 111, 109, 101] }, .string { data := #[101, 110, 100] }, .string { data := #[112, 97, 103, 101, 117, 112] }, .string { data := #[112, 97, 103, 101, 100, 111, 119, 110] }, .string { data := #[102, 49] }, .string { data := #[102, 50] }, .string { data := #[102, 51] }, .string { data := #[102, 52] }, .string { data := #[102, 53] }, .string { data := #[102, 54] }, .string { data := #[102, 55] }, .string { data := #[102, 56] }, .string { data := #[102, 57] }, .string { data := #[102, 49, 48] }, .string { data := #[102, 49, 49] }, .string { data := #[102, 49, 50] }] : Array Value) = (strs wordsL).toArray := by rfl
theorem valid_whole {l : By} (h0 : l ≠ []) (hw : wd l = l.length) : Lib.validD l = decide (¬ Brk l) := by
  rw [Lib.validD_step l h0]
  by_cases h : Brk l
  · rw [if_pos (by rw [show decodeL l = _ from h]; exact ⟨rfl, rfl⟩), decide_eq_false (fun x => x h)]
  · rw [if_neg (fun x => h (Prod.ext x.1 x.2)), decide_eq_true h, show (decodeL l).2 = l.length from hw, List.drop_length, Lib.validD_nil]
theorem one_ascii {l : By} (h0 : l ≠ []) (hw : wd l = l.length) (hb : ¬ Brk l) {c : UInt8} (hc : c.toNat < 128) : rn l = c.toNat ↔ l = [c] := by
  constructor
  · intro hr
    unfold Brk at hb
    unfold rn at hr
    unfold wd at hw
    rw [decodeL_eq l] at hb hr hw
    have hl : l.length = 1 ∧ (l.getD 0 0).toNat = c.toNat := by
      rcases decodeN_shape l.length (l.getD 0 0).toNat (l.getD 1 0).toNat (l.getD 2 0).toNat (l.getD 3 0).toNat with ⟨k, e⟩ | ⟨c1, c2, c3, cv, e⟩ | ⟨c1, c2, c3, c4, cv, cs, e⟩ | ⟨c1, c2, c3, c4, c5, cv, cw, e⟩ | e
      all_goals
        rw [e] at hr hw
        simp only at hr hw
      · exact ⟨hw.symm, hr⟩
      · omega
      · omega
      · omega
      · omega
    cases l with
    | nil => exact absurd rfl h0
    | cons b t =>
      have ht : t = [] := List.eq_nil_of_length_eq_zero (by have := hl.1; simp at this; simp [this])
      subst ht
      have := UInt8.toNat_inj.1 hl.2
      simp at this
      rw [this]
  · rintro rfl
    unfold rn
    rw [ascii_dec [] hc]
theorem mem_take {L : List By} {k : Nat} (hk : k < L.length) {l : By} : l ∈ L.take (k + 1) ↔ l ∈ L.take k ∨ l = L[k] := by
  rw [List.take_succ_eq_append_getElem hk, List.mem_append, List.mem_singleton]
end Go.Proofs.YtcfgpmmclijonaaDoor
