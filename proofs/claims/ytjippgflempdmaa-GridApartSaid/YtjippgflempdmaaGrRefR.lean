/- Layer 11: the document's Rects: what is asked first, the tracks. -/
import Derived.Test.YtjippgflempdmaaGrRefN
namespace Go.Proofs.Ytjippgflempdmaa
set_option linter.unusedVariables false
set_option linter.unusedSimpArgs false
set_option maxRecDepth 100000
open Go.RowKit
attribute [local go_sem] max_fold min_fold

theorem ask_five (a b c d e : Int) : askE [a, b, c, d, e] = askE [askE [a, b, c, d], e] := by
  unfold askE
  by_cases h1 : a = 0 <;> by_cases h2 : b = 0 <;> by_cases h3 : c = 0 <;> by_cases h4 : d = 0 <;> simp [askE, h1, h2, h3, h4]
/-- A slice that reads these numbers. -/
def SlV (n : Nat) (xs : List Value) : Value → World → Prop := fun v w => ∃ A c, v = .slice A n c ∧ At w.heap.size w A xs
theorem SlV.stable (n : Nat) (xs : List Value) : Stable (SlV n xs) := fun _ _ _ ⟨A, c, e, h⟩ hb => ⟨A, c, e, h.on9 hb⟩
/-- Two of them, and no error. -/
def Sl2 (n : Nat) (xs ys : List Value) : Value → World → Prop := fun v w => ∃ A c A2 c2, v = .tuple #[.slice A n c, .slice A2 n c2, .int .i64 0] ∧ At w.heap.size w A xs ∧ At w.heap.size w A2 ys
theorem Sl2.stable (n : Nat) (xs ys : List Value) : Stable (Sl2 n xs ys) := fun _ _ _ ⟨A, c, A2, c2, e, h1, h2⟩ hb => ⟨A, c, A2, c2, e, h1.on9 hb, h2.on9 hb⟩
theorem sl_up {P : Program} {f : FuncId} {args : Array Value} {w : World} {l : List Int} {n : Nat} (hn : l.length = n) (h : Calls P f args w (IntsPost l w)) : Calls P f args w fun e w'' => ∃ v, e = .returned v ∧ SlV n (ints l) v w'' ∧ Below w.heap.size w w'' :=
  h.mono fun _ _ ⟨A, c, he, hw, hb⟩ => ⟨_, he, ⟨A, c, by rw [hn], At.of_own hw⟩, hb⟩
theorem trk_up {P : Program} {f : FuncId} {args : Array Value} {w : World} {L : List T3} {n : Nat} (h : Calls P f args w (TrkPost L n w)) : Calls P f args w fun e w'' => ∃ v, e = .returned v ∧ SlV n (t3s L) v w'' ∧ Below w.heap.size w w'' :=
  h.mono fun _ _ ⟨A, c, he, hw, hb⟩ => ⟨_, he, ⟨A, c, rfl, At.of_own hw⟩, hb⟩
theorem sl2_up {P : Program} {f : FuncId} {args : Array Value} {w : World} {l m : List Int} {n : Nat} (h1 : l.length = n) (h2 : m.length = n) (h : Calls P f args w (Int2E l m 0 w)) : Calls P f args w fun e w'' => ∃ v, e = .returned v ∧ Sl2 n (ints l) (ints m) v w'' ∧ Below w.heap.size w w'' :=
  h.mono fun _ _ ⟨A, c, A2, c2, he, ho, ho2, _, hb⟩ => ⟨_, he, ⟨A, c, A2, c2, by rw [h1, h2], At.of_own ho, At.of_own ho2⟩, hb⟩
theorem rctE_bad {n : Int} {S : List Int} {r : Geo.Rc} {xs ws ys hs : List Int} {k N : Nat} (hk : k < N) (h : Geo.may (rctP n S r xs ws ys hs k) = false) : rctE n S r xs ws ys hs N = 9 := by
  unfold rctE
  rw [if_neg]
  intro ha
  have := List.all_eq_true.1 ha (rctP n S r xs ws ys hs k) (by unfold rctL; exact List.mem_map.2 ⟨k, List.mem_range.2 hk, rfl⟩)
  rw [h] at this
  cases this
theorem rctE_good {n : Int} {S : List Int} {r : Geo.Rc} {xs ws ys hs : List Int} {N : Nat} (h : ∀ q ∈ rctL n S r xs ws ys hs N, Geo.may q = true) : rctE n S r xs ws ys hs N = 0 := by
  unfold rctE
  rw [if_pos (List.all_eq_true.2 h)]
end Go.Proofs.Ytjippgflempdmaa
