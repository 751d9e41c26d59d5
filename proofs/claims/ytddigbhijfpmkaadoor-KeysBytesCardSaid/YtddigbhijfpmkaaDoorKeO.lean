/- Layer 21: the plain things: single, plain of the program. (Printed by gen_o.py.) -/
import Derived.Test.YtddigbhijfpmkaaDoorKeN
namespace Go.Proofs.YtddigbhijfpmkaaDoor
set_option linter.unusedVariables false
set_option linter.unusedSimpArgs false
set_option maxRecDepth 100000
open Go.RowKit Go.Shelf Go.Lib
set_option maxRecDepth 100000
set_option maxHeartbeats 8000000

theorem enc_a : ∀ n : Nat, n < 27 → Utf8.encode (96 + (n : Int)) = ⟨#[(96 + n).toUInt8]⟩ := by decide
theorem enc_b : ∀ n : Nat, n < 32 → Utf8.encode (64 + (n : Int)) = ⟨#[(64 + n).toUInt8]⟩ := by decide
def optV (o : Option Ky) : Value := match o with | some k => .tuple #[kyV k, .bool true] | none => .tuple #[kyV noKy, .bool false]
theorem single_any (b : UInt8) (w : World) : Calls Tryd.prog 45 #[.int .u8 (b.toNat : Int)] w fun e w' => e = .returned (optV (singleL b.toNat)) ∧ Below w.heap.size w w' := by
  obtain ⟨n, hn⟩ : ∃ n, b.toNat = n := ⟨_, rfl⟩
  have hb : n < 256 := by rw [← hn]; exact b.toNat_lt
  rw [hn]
  clear hn b
  obtain ⟨Z, hZ⟩ : ∃ x, optV (singleL n) = x := ⟨_, rfl⟩
  rw [hZ]
  unfold singleL at hZ
  by_cases h0 : n = 13
  · rw [if_pos h0] at hZ
    subst hZ h0
    go_enter Tryd.func45, Tryd.ntmps45
    go_wp2
    refine bodyPost_ret (v := .tuple #[.agg #[.string ⟨#[101, 110, 116, 101, 114]⟩, .int .u8 0], .bool true]) (by simp [results, Tryd.results45, go_sem, *]) rfl ⟨rfl, (Below.refl _ _).alloc (Nat.le_refl _) _⟩
  · rw [if_neg h0] at hZ
    by_cases h1 : n = 9
    · rw [if_pos h1] at hZ
      subst hZ h1
      go_enter Tryd.func45, Tryd.ntmps45
      go_wp2
      refine bodyPost_ret (v := .tuple #[.agg #[.string ⟨#[116, 97, 98]⟩, .int .u8 0], .bool true]) (by simp [results, Tryd.results45, go_sem, *]) rfl ⟨rfl, (Below.refl _ _).alloc (Nat.le_refl _) _⟩
    · rw [if_neg h1] at hZ
      by_cases h2 : n = 127
      · rw [if_pos h2] at hZ
        subst hZ h2
        go_enter Tryd.func45, Tryd.ntmps45
        go_wp2
        refine bodyPost_ret (v := .tuple #[.agg #[.string ⟨#[98, 97, 99, 107, 115, 112, 97, 99, 101]⟩, .int .u8 0], .bool true]) (by simp [results, Tryd.results45, go_sem, *]) rfl ⟨rfl, (Below.refl _ _).alloc (Nat.le_refl _) _⟩
      · rw [if_neg h2] at hZ
        by_cases h3 : n = 32
        · rw [if_pos h3] at hZ
          subst hZ h3
          go_enter Tryd.func45, Tryd.ntmps45
          go_wp2
          refine bodyPost_ret (v := .tuple #[.agg #[.string ⟨#[115, 112, 97, 99, 101]⟩, .int .u8 0], .bool true]) (by simp [results, Tryd.results45, go_sem, *]) rfl ⟨rfl, (Below.refl _ _).alloc (Nat.le_refl _) _⟩
        · rw [if_neg h3] at hZ
          by_cases h4 : n = 43
          · rw [if_pos h4] at hZ
            subst hZ h4
            go_enter Tryd.func45, Tryd.ntmps45
            go_wp2
            refine bodyPost_ret (v := .tuple #[.agg #[.string ⟨#[112, 108, 117, 115]⟩, .int .u8 0], .bool true]) (by simp [results, Tryd.results45, go_sem, *]) rfl ⟨rfl, (Below.refl _ _).alloc (Nat.le_refl _) _⟩
          · rw [if_neg h4] at hZ
            by_cases h5 : n = 0
            · rw [if_pos h5] at hZ
              subst hZ h5
              go_enter Tryd.func45, Tryd.ntmps45
              go_wp2
              refine bodyPost_ret (v := .tuple #[.agg #[.string ⟨#[115, 112, 97, 99, 101]⟩, .int .u8 2], .bool true]) (by simp [results, Tryd.results45, go_sem, *]) rfl ⟨rfl, (Below.refl _ _).alloc (Nat.le_refl _) _⟩
            · rw [if_neg h5] at hZ
              by_cases h6 : n < 27
              · rw [if_pos h6] at hZ
                have q1 : (n : Int) < 27 := by omega
                have HZ := hid hZ
                clear hZ
                go_enter Tryd.func45, Tryd.ntmps45
                go_wp2
                have HE := hid (enc_a n (by omega))
                generalize Utf8.encode (96 + (n : Int)) = E at *
                refine bodyPost_ret (v := .tuple #[.agg #[.string E, .int .u8 2], .bool true]) (by simp [results, Tryd.results45, go_sem, *]) rfl ⟨by rw [← HZ.out, HE.out]; rfl, (Below.refl _ _).alloc (Nat.le_refl _) _⟩
              · rw [if_neg h6] at hZ
                by_cases h7 : 27 < n ∧ n < 32
                · rw [if_pos h7] at hZ
                  have q1 : ¬ (n : Int) < 27 := by omega
                  have q2 : (27 : Int) < (n : Int) := by omega
                  have q3 : (n : Int) < 32 := by omega
                  have q4 : decide ((27 : Int) < (n : Int)) = true := decide_eq_true q2
                  have q5 : decide ((n : Int) < 32) = true := decide_eq_true q3
                  have HZ := hid hZ
                  clear hZ
                  go_enter Tryd.func45, Tryd.ntmps45
                  go_wp2
                  have HE := hid (enc_b n (by omega))
                  generalize Utf8.encode (64 + (n : Int)) = E at *
                  refine bodyPost_ret (v := .tuple #[.agg #[.string E, .int .u8 2], .bool true]) (by simp [results, Tryd.results45, go_sem, *]) rfl ⟨by rw [← HZ.out, HE.out]; rfl, (Below.refl _ _).alloc (Nat.le_refl _) _⟩
                · rw [if_neg h7] at hZ
                  subst hZ
                  have q1 : ¬ (n : Int) < 27 := by omega
                  by_cases hg : n = 27
                  · subst hg
                    go_enter Tryd.func45, Tryd.ntmps45
                    go_wp2
                    refine bodyPost_ret (v := .tuple #[.agg #[.string ⟨#[]⟩, .int .u8 0], .bool false]) (by simp [results, Tryd.results45, go_sem, *]) rfl ⟨rfl, (Below.refl _ _).alloc (Nat.le_refl _) _⟩
                  · have q2 : (27 : Int) < (n : Int) := by omega
                    have q3 : ¬ (n : Int) < 32 := by omega
                    have q4 : decide ((27 : Int) < (n : Int)) = true := decide_eq_true q2
                    have q5 : decide ((n : Int) < 32) = false := decide_eq_false q3
                    go_enter Tryd.func45, Tryd.ntmps45
                    go_wp2
                    refine bodyPost_ret (v := .tuple #[.agg #[.string ⟨#[]⟩, .int .u8 0], .bool false]) (by simp [results, Tryd.results45, go_sem, *]) rfl ⟨rfl, (Below.refl _ _).alloc (Nat.le_refl _) _⟩
end Go.Proofs.YtddigbhijfpmkaaDoor
