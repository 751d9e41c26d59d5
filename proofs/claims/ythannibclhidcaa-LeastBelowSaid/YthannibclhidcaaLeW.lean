/- Layer 9: what the document's examples say (awake). -/
import Derived.Test.YthannibclhidcaaLeH
import Derived.Test.YthannibclhidcaaLeK
namespace Go.Proofs.Ythannibclhidcaa
set_option linter.unusedVariables false
set_option linter.unusedSimpArgs false
open Go.RowKit
attribute [local go_sem] max_fold min_fold

theorem At.built (w : World) (xs : List Value) (t : TypeId) : At (w.heap.size + 1) (w.alloc (.cells xs.toArray t)) (some ⟨w.heap.size, 0, none⟩) xs := by
  intro hn
  refine ⟨_, _, rfl, by omega, fun j v hj => ?_⟩
  have hk : (w.alloc (.cells xs.toArray t)).heap[w.heap.size]? = some (.cells xs.toArray t (0, 0)) := by
    unfold World.alloc
    exact Array.getElem?_push_size
  rw [blk_cell hk]
  simpa using hj
theorem At.on {w w' : World} {A : Option Addr} {xs : List Value} (h : At w.heap.size w A xs) (hb : Below w.heap.size w w') : At w'.heap.size w' A xs := (h.below hb).mono hb.size
theorem At.new (w : World) (xs : List Value) (t : TypeId) : At (w.alloc (.cells xs.toArray t)).heap.size (w.alloc (.cells xs.toArray t)) (some ⟨w.heap.size, 0, none⟩) xs := (At.built w xs t).mono (by simp)
def LitE (r : List Int) (n : Nat) (err : Int) (w : World) (e : Ending) (w' : World) : Prop := ∃ A c, e = .returned (.tuple #[.slice A n c, .int .i64 err]) ∧ At w'.heap.size w' A (ints r) ∧ Below w.heap.size w w'
theorem IntsE.lit {r : List Int} {n : Nat} {err : Int} {w : World} {e : Ending} {w' : World} (h : IntsE r err w e w') (hn : r.length = n) : LitE r n err w e w' := by
  subst hn
  obtain ⟨A, c, rfl, hown, hb⟩ := h
  exact ⟨A, c, rfl, At.of_own hown, hb⟩
section
variable {L : List T3} {r : List Int} {e : Int} {k m : Nat} {A : Option Addr} {c : Nat} {w : World}
theorem Solve_at (n : Int) (hr : solveR n L = r) (he : solveE n L = e) (hk : L.length = k) (hm : r.length = m) (hA : At w.heap.size w A (t3s L)) (hk2 : k ≤ 1000) :
    Calls Try.prog 32 #[.int .i64 n, .slice A k c] w (LitE r m e w) := by
  subst hr he hk
  exact (Solve_any _ A c n L w hA (Nat.le_refl _) (by omega)).mono fun _ _ h => h.lit hm
theorem Tight_at (n : Int) (hr : tightR n L = r) (he : solveE n L = e) (hk : L.length = k) (hm : r.length = m) (hA : At w.heap.size w A (t3s L)) (hk2 : k ≤ 1000) :
    Calls Try.prog 36 #[.int .i64 n, .slice A k c] w (LitE r m e w) := by
  subst hr he hk
  exact (Tight_any _ A c n L w hA (Nat.le_refl _) (by omega)).mono fun _ _ h => h.lit hm
theorem Most_at (n most : Int) (hr : topR n L most = r) (he : topE n L most = e) (hk : L.length = k) (hm : r.length = m) (hA : At w.heap.size w A (t3s L)) (hk2 : k ≤ 1000) :
    Calls Try.prog 43 #[.int .i64 n, .slice A k c, .int .i64 most] w (LitE r m e w) := by
  subst hr he hk
  exact (Most_any _ A c n L most w hA (Nat.le_refl _) (by omega)).mono fun _ _ h => h.lit hm
theorem Loop_at (n : Int) (hr : LoopIs n L r e) (hk : L.length = k) (hm : r.length = m) (hA : At w.heap.size w A (t3s L)) (hk2 : k ≤ 1000) :
    Calls Try.prog 34 #[.int .i64 n, .slice A k c] w (LitE r m e w) := by
  subst hk
  exact (Loop_any _ A c n L r e w hA (Nat.le_refl _) (by omega) hr).mono fun _ _ h => h.lit hm
theorem Keeps_at {A2 : Option Addr} {c2 : Nat} {X : List Int} {i : Int} (hr : keepsK X L = i) (he : keepsE X L = e) (hk : L.length = k) (hm : X.length = m) (hA : At w.heap.size w A (t3s L)) (hX : At w.heap.size w A2 (ints X)) (hk2 : k ≤ 1000) (hm2 : m ≤ 1000) :
    Calls Try.prog 41 #[.slice A2 m c2, .slice A k c] w fun x w' => x = .returned (.tuple #[.int .i64 i, .int .i64 e]) ∧ Below w.heap.size w w' := by
  subst hr he hk hm
  exact Keeps_any _ A A2 c c2 X L w hA hX (Nat.le_refl _) (by omega) (by omega)
theorem Same_at {l : List Int} {A2 : Option Addr} {c2 : Nat} (hm : l.length = m) (h1 : At w.heap.size w A (ints l)) (h2 : At w.heap.size w A2 (ints l)) (hm2 : m ≤ 1000) :
    Calls Try.prog 38 #[.slice A m c, .slice A2 m c2] w fun x w' => x = .returned (.bool true) ∧ Below w.heap.size w w' := by
  subst hm
  exact same9_any _ A A2 c c2 l w (by omega) h1 h2
end
def ex1 : List T3 := [⟨0, 1, 5⟩, ⟨1, 2, 3⟩, ⟨0, 2, 4⟩]
def ex2 : List T3 := [⟨0, 1, 5⟩, ⟨1, 0, -4⟩]
theorem loop_ex2 : LoopIs 2 ex2 [0, 1] 0 := by
  have h0 : chkN 2 ex2 = 0 := by decide +kernel
  obtain ⟨R, E, h⟩ := loop_ex 2 ex2
  have h2 := h
  cases h2 with
  | bad hb => exact absurd h0 hb
  | none _ hl => exact absurd hl (by decide +kernel)
  | some _ v p b t hv hl hh hc hb =>
    have h9 := loop_is hc hb
    generalize loopL ex2 (fin (Int.toNat 2) ex2) (itB ex2 (fin (Int.toNat 2) ex2) (Int.toNat 2) v) p b = R at *
    have hp : ∀ j, pn ex2 j = (bk ex2 j).p.toNat := fun j => rfl
    have hle : R.length ≤ 2 := h9.le
    have hpos := h9.pos
    obtain ⟨j0, e0, l0, _⟩ := h9.nat 0 hpos
    have l0' : j0 < 2 := l0
    match R, hle, hpos with
    | [x], _, _ =>
      have hn := h9.next 0 (by simp)
      simp only [List.getD_cons_zero, List.length_cons, List.length_nil, Nat.zero_add, Nat.mod_self] at hn e0
      rw [e0] at hn
      simp only [Int.toNat_natCast] at hn
      have : j0 = 0 ∨ j0 = 1 := by omega
      rcases this with rfl | rfl <;> exact absurd hn (by decide +kernel)
    | [x, y], _, _ =>
      obtain ⟨j1, e1, l1, g1⟩ := h9.nat 1 (by simp)
      have l1' : j1 < 2 := l1
      have hi := h9.inj 0 1 (by omega) (by simp)
      simp only [List.getD_cons_zero, List.getD_cons_succ] at e0 e1 g1 hi
      subst e0 e1
      simp only [Int.toNat_natCast] at hi
      have hj : j0 = 0 ∧ j1 = 1 := by
        have a : j0 ≠ j1 := fun e => hi (by rw [e])
        omega
      obtain ⟨rfl, rfl⟩ := hj
      exact h

set_option maxRecDepth 100000 in
set_option maxHeartbeats 4000000 in
theorem awake_any (w : World) : Calls Try.prog 29 #[] w fun e w' => e = .returned (.bool true) ∧ Below w.heap.size w w' := by
  go_enter Try.func29, Try.ntmps29
  have a1 := At.new w (t3s ex1) 54
  have b1 : Below w.heap.size w (w.alloc (.cells (t3s ex1).toArray 54)) := (Below.refl _ _).alloc (Nat.le_refl _) _
  go_wp2_with fail
  refine (Solve_at (L := ex1) 3 (r := [0, 5, 8]) (e := 0) (m := 3) (by decide +kernel) (by decide +kernel) rfl rfl a1 (by decide)).mono ?_
  rintro e w2 ⟨A2, c2, rfl, x2, h2⟩
  replace a1 := a1.on h2
  have b2 := b1.trans (h2.mono b1.size)
  clear b1 h2
  go_wp2_with fail
  refine (Tight_at (L := ex1) 3 (r := [0, 1]) (e := 0) (m := 2) (by decide +kernel) (by decide +kernel) rfl rfl a1 (by decide)).mono ?_
  rintro e w3 ⟨A3, c3, rfl, x3, h3⟩
  replace a1 := a1.on h3
  replace x2 := x2.on h3
  have b3 := b2.trans (h3.mono b2.size)
  clear b2 h3
  go_wp2_with fail
  refine (Most_at (L := ex1) 3 20 (r := [12, 17, 20]) (e := 0) (m := 3) (by decide +kernel) (by decide +kernel) rfl rfl a1 (by decide)).mono ?_
  rintro e w4 ⟨A4, c4, rfl, x4, h4⟩
  replace x2 := x2.on h4
  replace x3 := x3.on h4
  have b4 := b3.trans (h4.mono b3.size)
  clear b3 h4 a1
  have a5 := At.new w4 (t3s ex2) 54
  have h5 : Below w4.heap.size w4 (w4.alloc (.cells (t3s ex2).toArray 54)) := (Below.refl _ _).alloc (Nat.le_refl _) _
  replace x2 := x2.on h5
  replace x3 := x3.on h5
  replace x4 := x4.on h5
  have b5 := b4.trans (h5.mono b4.size)
  clear h5 b4
  go_wp2_with fail
  refine (Solve_at (L := ex2) 2 (r := []) (e := 90) (m := 0) (by decide +kernel) (by decide +kernel) rfl rfl a5 (by decide)).mono ?_
  rintro e w6 ⟨A6, c6, rfl, _, h6⟩
  replace a5 := a5.on h6
  replace x2 := x2.on h6
  replace x3 := x3.on h6
  replace x4 := x4.on h6
  have b6 := b5.trans (h6.mono b5.size)
  clear h6 b5
  go_wp2_with fail
  refine (Loop_at (L := ex2) 2 (r := [0, 1]) (e := 0) (m := 2) loop_ex2 rfl rfl a5 (by decide)).mono ?_
  rintro e w7 ⟨A7, c7, rfl, x7, h7⟩
  replace a5 := a5.on h7
  replace x2 := x2.on h7
  replace x3 := x3.on h7
  replace x4 := x4.on h7
  have b7 := b6.trans (h7.mono b6.size)
  clear h7 b6
  have a8 := At.new w7 (ints [0, 5]) 3
  have h8 : Below w7.heap.size w7 (w7.alloc (.cells (ints [0, 5]).toArray 3)) := (Below.refl _ _).alloc (Nat.le_refl _) _
  replace a5 := a5.on h8
  replace x2 := x2.on h8
  replace x3 := x3.on h8
  replace x4 := x4.on h8
  replace x7 := x7.on h8
  have b8 := b7.trans (h8.mono b7.size)
  clear h8 b7
  go_wp2_with fail
  refine (Keeps_at (L := ex2) (X := [0, 5]) (i := 1) (e := 0) (by decide +kernel) (by decide +kernel) rfl rfl a5 a8 (by decide) (by decide)).mono ?_
  rintro e w9 ⟨rfl, h9⟩
  replace x2 := x2.on h9
  replace x3 := x3.on h9
  replace x4 := x4.on h9
  replace x7 := x7.on h9
  have b9 := b8.trans (h9.mono b8.size)
  clear h9 b8 a5 a8
  have y := At.new w9 (ints [0, 5, 8]) 3
  have h10 : Below w9.heap.size w9 (w9.alloc (.cells (ints [0, 5, 8]).toArray 3)) := (Below.refl _ _).alloc (Nat.le_refl _) _
  replace x2 := x2.on h10
  replace x3 := x3.on h10
  replace x4 := x4.on h10
  replace x7 := x7.on h10
  have b10 := b9.trans (h10.mono b9.size)
  clear h10 b9
  go_wp2_with fail
  refine (Same_at (l := [0, 5, 8]) rfl x2 y (by decide)).mono ?_
  rintro e w11 ⟨rfl, h11⟩
  replace x3 := x3.on h11
  replace x4 := x4.on h11
  replace x7 := x7.on h11
  have b11 := b10.trans (h11.mono b10.size)
  clear h11 b10 y x2
  have y := At.new w11 (ints [0, 1]) 3
  have h12 : Below w11.heap.size w11 (w11.alloc (.cells (ints [0, 1]).toArray 3)) := (Below.refl _ _).alloc (Nat.le_refl _) _
  replace x3 := x3.on h12
  replace x4 := x4.on h12
  replace x7 := x7.on h12
  have b12 := b11.trans (h12.mono b11.size)
  clear h12 b11
  go_wp2_with fail
  refine (Same_at (l := [0, 1]) rfl x3 y (by decide)).mono ?_
  rintro e w13 ⟨rfl, h13⟩
  replace x4 := x4.on h13
  replace x7 := x7.on h13
  have b13 := b12.trans (h13.mono b12.size)
  clear h13 b12 y x3
  have y := At.new w13 (ints [12, 17, 20]) 3
  have h14 : Below w13.heap.size w13 (w13.alloc (.cells (ints [12, 17, 20]).toArray 3)) := (Below.refl _ _).alloc (Nat.le_refl _) _
  replace x4 := x4.on h14
  replace x7 := x7.on h14
  have b14 := b13.trans (h14.mono b13.size)
  clear h14 b13
  go_wp2_with fail
  refine (Same_at (l := [12, 17, 20]) rfl x4 y (by decide)).mono ?_
  rintro e w15 ⟨rfl, h15⟩
  replace x7 := x7.on h15
  have b15 := b14.trans (h15.mono b14.size)
  clear h15 b14 y x4
  have y := At.new w15 (ints [0, 1]) 3
  have h16 : Below w15.heap.size w15 (w15.alloc (.cells (ints [0, 1]).toArray 3)) := (Below.refl _ _).alloc (Nat.le_refl _) _
  replace x7 := x7.on h16
  have b16 := b15.trans (h16.mono b15.size)
  clear h16 b15
  go_wp2_with fail
  refine (Same_at (l := [0, 1]) rfl x7 y (by decide)).mono ?_
  rintro e w17 ⟨rfl, h17⟩
  have b17 := b16.trans (h17.mono b16.size)
  clear h17 b16 y x7
  go_wp2
  go_ret
  exact ⟨rfl, b17⟩
end Go.Proofs.Ythannibclhidcaa
