/- Layer 3: two lists of texts compared. -/
import Derived.Test.YtoelmcmdiamnnaaDoorRuL6
namespace Go.Proofs.YtoelmcmdiamnnaaDoor
set_option linter.unusedVariables false
set_option linter.unusedSimpArgs false
set_option maxRecDepth 100000
open Go.RowKit Go.Lib

theorem mk_inj {p q : By} : (ByteArray.mk p.toArray = ByteArray.mk q.toArray) ↔ p = q :=
  ⟨fun h => by have := congrArg (fun b : ByteArray => b.data.toList) h; simpa using this, fun h => by rw [h]⟩
set_option maxHeartbeats 4000000
set_option maxRecDepth 100000
theorem SameTexts_any (B : Nat) (L M : List By) (A A2 : Option Addr) (c c2 : Nat) (w : World) (hA : At B w A (strs L)) (hA2 : At B w A2 (strs M)) (hB : B ≤ w.heap.size) (hL : L.length ≤ 9000000) (hM : M.length ≤ 9000000) :
    Calls Tryd.prog 22 #[.slice A L.length c, .slice A2 M.length c2] w fun e w' => e = .returned (.bool (decide (L = M))) ∧ Below w.heap.size w w' := by
  by_cases hlm : L.length = M.length
  · have hli : (L.length : Int) = (M.length : Int) := by omega
    have hlb : ((L.length : Int) != (M.length : Int)) = false := by simp [hli]
    have HA := hid hA
    have HA2 := hid hA2
    have HEQ : Hid (∀ r, (∀ k (h : k < L.length), k < r → L[k]'h = M[k]'(by omega)) → r = L.length → decide (L = M) = true) := hid (fun r h hr => decide_eq_true (List.ext_getElem hlm (fun i h1 h2 => h i h1 (by omega))))
    have HNE : Hid (∀ k (h : k < L.length) (h2 : k < M.length), L[k]'h ≠ M[k]'h2 → decide (L = M) = false) := hid (fun k h h2 hn => decide_eq_false (fun e => hn (by subst e; rfl)))
    generalize decide (L = M) = Z at *
    clear hA hA2
    go_enter Tryd.func22, Tryd.ntmps22
    go_wp2
    go_loopg [5] L.length (fun gh v5 wr => ∃ (k : Nat), v5 = .int .i64 k ∧ k ≤ L.length ∧ L.length - k ≤ gh ∧ Hid (∀ j (h : j < L.length), j < k → L[j]'h = M[j]'(by omega)) ∧ Below w.heap.size w wr)
    case atStart => exact ⟨0, rfl, by omega, by omega, hid (fun j h h2 => absurd h2 (by omega)), Below.refl _ _⟩
    case round =>
      obtain ⟨k, rfl, hk, hgh, HK, hb⟩ := hrel
      have hsr := hb.size
      by_cases hlt : k < L.length
      · have hlt2 : k < M.length := by omega
        have hl1 : (k : Int) < (L.length : Int) := by omega
        have hl2 : (k : Int) < (M.length : Int) := by omega
        obtain ⟨g, o, rfl, hg, c0⟩ := (HA.out.below (hb.mono hB)).st hlt
        obtain ⟨g2, o2, rfl, hg2, c1⟩ := (HA2.out.below (hb.mono hB)).st hlt2
        have hn := HNE.out k hlt hlt2
        have hs : (∀ j (h : j < L.length), j < k + 1 → L[j]'h = M[j]'(by omega)) ∨ L[k]'hlt ≠ M[k]'hlt2 := by
          by_cases e : L[k]'hlt = M[k]'hlt2
          · left
            intro j h h2
            by_cases ej : j = k
            · subst ej
              exact e
            · exact HK.out j h (by omega)
          · exact .inr e
        have he : (∀ j (h : j < L.length), j < k + 1 → L[j]'h = M[j]'(by omega)) → L[k]'hlt = M[k]'hlt2 := fun h => h k hlt (by omega)
        obtain ⟨p, hp⟩ : ∃ p, L[k]'hlt = p := ⟨_, rfl⟩
        obtain ⟨q, hq⟩ : ∃ q, M[k]'hlt2 = q := ⟨_, rfl⟩
        rw [hp] at c0 hn hs he
        rw [hq] at c1 hn hs he
        rcases hs with hs | hs
        · have hpq := he hs
          have HS := hid hs
          clear hn hs he hp hq
          subst hpq
          go_wp2
          go_region
          go_wp2
          go_roundg (L.length - (k + 1))
          case measure => omega
          case rel => exact ⟨k + 1, by go_num, by omega, by omega, HS, hb.drew⟩
        · have hz := hn hs
          have hpq : (p == q) = false := by simpa using hs
          clear hn hs he hp hq
          subst hz
          go_wp2
          go_region
          go_wp2
          go_ret
          exact ⟨rfl, hb.drew⟩
      · have hli2 : ¬ ((k : Int) < (L.length : Int)) := by omega
        have hz := HEQ.out k HK.out (by omega)
        subst hz
        go_wp2
        go_ret
        exact ⟨rfl, hb⟩
  · have hli : ¬ ((L.length : Int) = (M.length : Int)) := by omega
    have hlb : ((L.length : Int) != (M.length : Int)) = true := by simpa using hli
    have hz : decide (L = M) = false := decide_eq_false (fun h => hlm (by rw [h]))
    rw [hz]
    clear hz
    go_enter Tryd.func22, Tryd.ntmps22
    go_wp2
    go_ret
    exact ⟨rfl, Below.refl _ _⟩
end Go.Proofs.YtoelmcmdiamnnaaDoor
