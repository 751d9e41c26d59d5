/- Layer 10: the same calls at literals, for the law FlexNames. -/
import Derived.Test.YthannibclhidcaaFlexI
namespace Go.Proofs.Ythannibclhidcaa
set_option linter.unusedVariables false
set_option linter.unusedSimpArgs false
open Go.RowKit

def LitE (r : List Int) (n : Nat) (err : Int) (w : World) (e : Ending) (w' : World) : Prop := ∃ A c, e = .returned (.tuple #[.slice A n c, .int .i64 err]) ∧ At w'.heap.size w' A (ints r) ∧ Below w.heap.size w w'
theorem IntsE.lit {r : List Int} {n : Nat} {err : Int} {w : World} {o : Obj} {e : Ending} {w' : World} (h : IntsE r err (w.alloc o) e w') (hn : r.length = n) : LitE r n err w e w' := by
  subst hn
  obtain ⟨A, c, rfl, hown, hb⟩ := h
  exact ⟨A, c, rfl, At.of_own hown, ((Below.refl _ _).alloc (Nat.le_refl _) o).trans (hb.mono (by simp))⟩
theorem Share_lit (L : List T3) (room : Int) (r : List Int) (e : Int) (n m : Nat) (hn : L.length = n) (hm : r.length = m) (hr : shareR L room = r) (he : shareE L room = e) (hl : n ≤ 5000) (w : World) :
    Calls Try.prog 20 #[.slice (some ⟨w.heap.size, 0, none⟩) n n, .int .i64 room] (w.alloc (.cells (t3s L).toArray 39)) (LitE r m e w) :=
  (Share_is hn hr he hl w).mono fun _ _ h => IntsE.lit h hm
theorem Share_no (w : World) : Calls Try.prog 20 #[.slice none 0 0, .int .i64 (-1)] w (fun e w' => ∃ A c, e = .returned (.tuple #[.slice A 0 c, .int .i64 2]) ∧ Below w.heap.size w w') := by
  refine (Share_any 0 none 0 [] (-1) w (fun h => by simp [t3s] at h) (Nat.zero_le _) (by simp)).mono ?_
  rw [show shareR [] (-1) = [] by decide +kernel, show shareE [] (-1) = 2 by decide +kernel]
  rintro e w' ⟨A, c, rfl, hown, hb⟩
  exact ⟨A, c, rfl, hb⟩
theorem Starts_no (w : World) : Calls Try.prog 14 #[.slice none 0 0, .int .i64 16385] w (fun e w' => ∃ A c, e = .returned (.tuple #[.slice A 0 c, .int .i64 2]) ∧ Below w.heap.size w w') := by
  refine (Starts_any 0 none 0 [] 16385 w (fun h => by simp [ints] at h) (Nat.zero_le _) (by simp)).mono ?_
  rw [show startsR [] 16385 = [] by decide +kernel, show startsE [] 16385 = 2 by decide +kernel]
  rintro e w' ⟨A, c, rfl, hown, hb⟩
  exact ⟨A, c, rfl, hb⟩
theorem Starts_lit (Z : List Int) (gap : Int) (r : List Int) (e : Int) (n m : Nat) (hn : Z.length = n) (hm : r.length = m) (hr : startsR Z gap = r) (he : startsE Z gap = e) (hl : n ≤ 5000) (w : World) :
    Calls Try.prog 14 #[.slice (some ⟨w.heap.size, 0, none⟩) n n, .int .i64 gap] (w.alloc (.cells (ints Z).toArray 3)) (LitE r m e w) := by
  subst hn hr he
  exact (Starts_any (w.heap.size + 1) _ _ Z gap _ (At.built w _ _) (by simp) (by omega)).mono fun _ _ h => IntsE.lit h hm
theorem Row_lit (L : List T3) (gap room : Int) (r b : List Int) (e : Int) (n m : Nat) (hn : L.length = n) (hm : r.length = m) (hm2 : b.length = m) (hr : rowR L gap room = r) (hb : rowB L gap room = b) (he : rowE L gap room = e) (hl : n ≤ 5000) (w : World) :
    Calls Try.prog 16 #[.slice (some ⟨w.heap.size, 0, none⟩) n n, .int .i64 gap, .int .i64 room] (w.alloc (.cells (t3s L).toArray 39)) (fun x w' => ∃ A c A2 c2, x = .returned (.tuple #[.slice A m c, .slice A2 m c2, .int .i64 e]) ∧ At w'.heap.size w' A (ints r) ∧ At w'.heap.size w' A2 (ints b) ∧ Below w.heap.size w w') := by
  refine (Row_is hn hr hb he hl w).mono ?_
  subst hm
  rintro x w' ⟨A, c, A2, c2, rfl, h1, h2, _, hb⟩
  rw [hm2]
  rw [hm2] at h2
  exact ⟨A, c, A2, c2, rfl, At.of_own h1, At.of_own h2, ((Below.refl _ _).alloc (Nat.le_refl _) _).trans (hb.mono (by simp))⟩
theorem Need_lit (L : List T3) (v e : Int) (n : Nat) (hn : L.length = n) (hr : needR L = v) (he : chk L = e) (hl : n ≤ 5000) (w : World) :
    Calls Try.prog 22 #[.slice (some ⟨w.heap.size, 0, none⟩) n n] (w.alloc (.cells (t3s L).toArray 39)) (fun x w' => x = .returned (.tuple #[.int .i64 v, .int .i64 e]) ∧ Below w.heap.size w w') := by
  subst hn hr he
  exact (need_any (w.heap.size + 1) _ _ L _ (At.built w _ _) (by simp) (by omega)).mono fun _ _ ⟨h, hb⟩ => ⟨h, ((Below.refl _ _).alloc (Nat.le_refl _) _).trans (hb.mono (by simp))⟩
theorem Most_lit (L : List T3) (v e : Int) (n : Nat) (hn : L.length = n) (hr : mostR L = v) (he : chk L = e) (hl : n ≤ 5000) (w : World) :
    Calls Try.prog 24 #[.slice (some ⟨w.heap.size, 0, none⟩) n n] (w.alloc (.cells (t3s L).toArray 39)) (fun x w' => x = .returned (.tuple #[.int .i64 v, .int .i64 e]) ∧ Below w.heap.size w w') := by
  subst hn hr he
  exact (most_any (w.heap.size + 1) _ _ L _ (At.built w _ _) (by simp) (by omega)).mono fun _ _ ⟨h, hb⟩ => ⟨h, ((Below.refl _ _).alloc (Nat.le_refl _) _).trans (hb.mono (by simp))⟩
theorem is_lit (l : List Int) (n : Nat) (hn : l.length = n) (hl : n ≤ 1000) (w : World) (A : Option Addr) (c : Nat) (h : At w.heap.size w A (ints l)) :
    Calls Try.prog 28 #[.slice A n c, .int .i64 0, .slice (some ⟨w.heap.size, 0, none⟩) n n] (w.alloc (.cells (ints l).toArray 3)) fun e w' => e = .returned (.bool true) ∧ Below w.heap.size w w' :=
  (is_true (w.heap.size + 1) A _ c _ n l _ hn (by omega) (h.next (Nat.le_refl _) _) (At.built w _ _)).mono fun _ _ ⟨h, hb⟩ => ⟨h, ((Below.refl _ _).alloc (Nat.le_refl _) _).trans (hb.mono (by simp))⟩
theorem At.on {w w' : World} {A : Option Addr} {xs : List Value} (h : At w.heap.size w A xs) (hb : Below w.heap.size w w') : At w'.heap.size w' A xs := (h.below hb).mono hb.size
theorem belowOn {w0 w w' : World} (h : Below w0.heap.size w0 w) (hb : Below w.heap.size w w') : Below w0.heap.size w0 w' := h.trans (hb.mono h.size)
end Go.Proofs.Ythannibclhidcaa
