/- Slices in memory: how they read, as plain lists, below a block number; what the call owns; one append, one store. -/
import Derived.Test.YtnkojoajcdhngaaDoorBaseMake
import Derived.Lib.Hide
namespace Go.Proofs.YtnkojoajcdhngaaDoor
set_option linter.unusedVariables false
set_option linter.unusedSimpArgs false
set_option maxRecDepth 100000
open Go.RowKit

theorem blk_lt2 {w : World} {g : Nat} {o : Obj} (h : w.heap[g]? = some o) : g < w.heap.size := lt_of_block h
theorem blk_cell {w : World} {g : Nat} {t : TypeId} {cs : Array Value} (h : w.heap[g]? = some (.cells cs t (0, 0))) : ∀ i : Nat, w.cell? ⟨g, i, none⟩ = cs[i]? := fun i => cell_of_row w g i cs t (0, 0) h
theorem blk_frozen {w : World} {g : Nat} {t : TypeId} {cs : Array Value} (h : w.heap[g]? = some (.cells cs t (0, 0))) : ∀ i : Nat, w.frozen? ⟨g, i, none⟩ = false := fun i => by simp [World.frozen?, h]

structure T3 where
  p : Int
  q : Int
  r : Int
deriving DecidableEq

def ints (l : List Int) : List Value := l.map (Value.int .i64)
def bools (l : List Bool) : List Value := l.map Value.bool
def t3s : List T3 → List Value
  | [] => []
  | c :: l => .int .i64 c.p :: .int .i64 c.q :: .int .i64 c.r :: t3s l
theorem ints_len (l : List Int) : (ints l).length = l.length := by simp [ints]
theorem bools_len (l : List Bool) : (bools l).length = l.length := by simp [bools]
theorem t3s_len (l : List T3) : (t3s l).length = l.length * 3 := by
  induction l with
  | nil => rfl
  | cons r l ih => simp [t3s, ih]; omega
theorem ints_append (l m : List Int) : ints (l ++ m) = ints l ++ ints m := by simp [ints]
theorem bools_append (l m : List Bool) : bools (l ++ m) = bools l ++ bools m := by simp [bools]
theorem t3s_append (l m : List T3) : t3s (l ++ m) = t3s l ++ t3s m := by
  induction l with
  | nil => rfl
  | cons r l ih => simp [t3s, ih]
theorem ints_one (l : List Int) : ∀ v ∈ ints l, v.oneCell' = true := by
  intro v h
  simp only [ints, List.mem_map] at h
  obtain ⟨a, _, rfl⟩ := h
  rfl
theorem bools_one (l : List Bool) : ∀ v ∈ bools l, v.oneCell' = true := by
  intro v h
  simp only [bools, List.mem_map] at h
  obtain ⟨a, _, rfl⟩ := h
  rfl
theorem t3s_one (l : List T3) : ∀ v ∈ t3s l, v.oneCell' = true := by
  induction l with
  | nil => intro v h; cases h
  | cons r l ih =>
    intro v h
    simp only [t3s, List.mem_cons] at h
    rcases h with rfl | rfl | rfl | h
    · rfl
    · rfl
    · rfl
    · exact ih v h
theorem ints_at (l : List Int) (k : Nat) (h : k < l.length) : (ints l)[k]? = some (.int .i64 l[k]) := by simp [ints, h]
theorem bools_at (l : List Bool) (k : Nat) (h : k < l.length) : (bools l)[k]? = some (.bool l[k]) := by simp [bools, h]
theorem t3s_at (l : List T3) (k : Nat) (h : k < l.length) : (t3s l)[k * 3]? = some (.int .i64 l[k].p) ∧ (t3s l)[k * 3 + 1]? = some (.int .i64 l[k].q) ∧ (t3s l)[k * 3 + 2]? = some (.int .i64 l[k].r) := by
  induction l generalizing k with
  | nil => simp at h
  | cons r l ih =>
    cases k with
    | zero => simp [t3s]
    | succ k =>
      have := ih k (by simpa using h)
      have e : (k + 1) * 3 = k * 3 + 3 := by omega
      rw [e]
      simpa [t3s] using this
theorem ints_set (l : List Int) (k : Nat) (v : Int) : (ints l).set k (.int .i64 v) = ints (l.set k v) := by simp [ints, List.map_set]
theorem bools_set (l : List Bool) (k : Nat) (v : Bool) : (bools l).set k (.bool v) = bools (l.set k v) := by simp [bools, List.map_set]

/-- A slice at A, in a block below B, whose cells read as xs. -/
def At (B : Nat) (w : World) (A : Option Addr) (xs : List Value) : Prop := 0 < xs.length → ∃ g o, A = some ⟨g, o, none⟩ ∧ g < B ∧ ∀ j v, xs[j]? = some v → w.cell? ⟨g, o + j, none⟩ = some v
theorem At.below {B : Nat} {w w' : World} {A : Option Addr} {xs : List Value} (h : At B w A xs) (hb : Below B w w') : At B w' A xs := by
  intro hn
  obtain ⟨g, o, hA, hg, hc⟩ := h hn
  exact ⟨g, o, hA, hg, fun j v hj => by rw [hb.cell (p := ⟨g, o + j, none⟩) hg]; exact hc j v hj⟩
theorem At.mono {B B' : Nat} {w : World} {A : Option Addr} {xs : List Value} (h : At B w A xs) (hB : B ≤ B') : At B' w A xs := by
  intro hn
  obtain ⟨g, o, hA, hg, hc⟩ := h hn
  exact ⟨g, o, hA, by omega, hc⟩
theorem At.of_own {w : World} {base : Nat} {e : TypeId} {size n c : Nat} {A : Option Addr} {xs : List Value} (h : w.ownsRow base e size (.slice A n c) n xs) : At w.heap.size w A xs := by
  intro hn
  rcases h.2 with ⟨hv, h0⟩ | ⟨g, cap, cur, hv, hb, hh, hn', hcap, hcs, ht⟩
  · have := h.1
    rw [h0] at this
    omega
  have hA : A = some ⟨g, 0, none⟩ := by injection hv
  refine ⟨g, 0, hA, lt_of_block hh, fun j v hj => ?_⟩
  rw [Nat.zero_add, cell_of_row w g j cur _ (0, 0) hh]
  rw [← ht, List.getElem?_take] at hj
  split at hj
  · simpa using hj
  · cases hj
theorem At.ext {B : Nat} {w w' : World} {A : Option Addr} {xs : List Value} (h : At B w A xs) (hb : Below w.heap.size w w') : At B w' A xs := by
  intro hn
  obtain ⟨g, o, hA, hg, hc⟩ := h hn
  refine ⟨g, o, hA, hg, fun j v hj => ?_⟩
  have h1 := hc j v hj
  rw [hb.cell (p := ⟨g, o + j, none⟩) (World.block_lt_of_cell? _ _ h1)]
  exact h1
/-- The first m elements of a slice. -/
theorem At.take {B : Nat} {w : World} {A : Option Addr} {xs : List Value} (h : At B w A xs) (m : Nat) : At B w A (xs.take m) := by
  intro hn
  obtain ⟨g, o, hA, hg, hc⟩ := h (by rw [List.length_take] at hn; omega)
  refine ⟨g, o, hA, hg, fun j v hj => hc j v ?_⟩
  rw [List.getElem?_take] at hj
  split at hj
  · exact hj
  · cases hj
theorem At.int {B : Nat} {w : World} {A : Option Addr} {l : List Int} (h : At B w A (ints l)) {k : Nat} (hk : k < l.length) : ∃ g o, A = some ⟨g, o, none⟩ ∧ g < B ∧ w.cell? ⟨g, o + k, none⟩ = some (.int .i64 l[k]) := by
  obtain ⟨g, o, hA, hg, hc⟩ := h (by rw [ints_len]; omega)
  exact ⟨g, o, hA, hg, hc _ _ (ints_at l k hk)⟩
theorem At.bool {B : Nat} {w : World} {A : Option Addr} {l : List Bool} (h : At B w A (bools l)) {k : Nat} (hk : k < l.length) : ∃ g o, A = some ⟨g, o, none⟩ ∧ g < B ∧ w.cell? ⟨g, o + k, none⟩ = some (.bool l[k]) := by
  obtain ⟨g, o, hA, hg, hc⟩ := h (by rw [bools_len]; omega)
  exact ⟨g, o, hA, hg, hc _ _ (bools_at l k hk)⟩
theorem At.t3 {B : Nat} {w : World} {A : Option Addr} {l : List T3} (h : At B w A (t3s l)) {k : Nat} (hk : k < l.length) : ∃ g o, A = some ⟨g, o, none⟩ ∧ g < B ∧ w.cell? ⟨g, o + k * 3, none⟩ = some (.int .i64 l[k].p) ∧ w.cell? ⟨g, o + k * 3 + 1, none⟩ = some (.int .i64 l[k].q) ∧ w.cell? ⟨g, o + k * 3 + 2, none⟩ = some (.int .i64 l[k].r) := by
  obtain ⟨g, o, hA, hg, hc⟩ := h (by rw [t3s_len]; omega)
  obtain ⟨h0, h1, h2⟩ := t3s_at l k hk
  exact ⟨g, o, hA, hg, hc _ _ h0, by rw [Nat.add_assoc]; exact hc _ _ h1, by rw [Nat.add_assoc]; exact hc _ _ h2⟩

/-! What the call owns. -/
theorem own_shape {w : World} {base : Nat} {e : TypeId} {size n : Nat} {v : Value} {xs : List Value} (h : w.ownsRow base e size v n xs) : ∃ A c, v = .slice A n c := by
  rcases h.2 with ⟨rfl, rfl⟩ | ⟨g, cap, cur, rfl, _⟩
  · exact ⟨none, 0, rfl⟩
  · exact ⟨_, cap, rfl⟩
theorem own_ge {w : World} {base : Nat} {e : TypeId} {size n : Nat} {v : Value} {xs : List Value} (h : w.ownsRow base e size v n xs) : ∀ k, v.ownBlock = some k → base ≤ k := fun k hk => (h.lt k hk).1
theorem own_mono {w : World} {base base' : Nat} {e : TypeId} {size n : Nat} {v : Value} {xs : List Value} (h : w.ownsRow base e size v n xs) (hb : base' ≤ base) : w.ownsRow base' e size v n xs := by
  refine ⟨h.1, ?_⟩
  rcases h.2 with h2 | ⟨g, cap, cur, hv, hg, r⟩
  · exact .inl h2
  · exact .inr ⟨g, cap, cur, hv, by omega, r⟩
theorem own_below {w w' : World} {B base : Nat} {e : TypeId} {size n : Nat} {v : Value} {xs : List Value} (h : w.ownsRow base e size v n xs) (hv : ∀ k, v.ownBlock = some k → k < B) (hb : Below B w w') : w'.ownsRow base e size v n xs := by
  refine ⟨h.1, ?_⟩
  rcases h.2 with h2 | ⟨g, cap, cur, rfl, hg, hh, r⟩
  · exact .inl h2
  · exact .inr ⟨g, cap, cur, rfl, hg, by rw [hb.block g (hv g rfl)]; exact hh, r⟩
theorem own_below' {w w' : World} {base : Nat} {e : TypeId} {size n : Nat} {v : Value} {xs : List Value} (h : w.ownsRow base e size v n xs) (hb : Below w.heap.size w w') : w'.ownsRow base e size v n xs := own_below h (fun k hk => (h.lt k hk).2) hb
theorem own_lt {w : World} {base : Nat} {e : TypeId} {size n : Nat} {v : Value} {xs : List Value} (h : w.ownsRow base e size v n xs) {B : Nat} (hB : w.heap.size ≤ B) : ∀ k, v.ownBlock = some k → k < B := fun k hk => Nat.lt_of_lt_of_le (h.lt k hk).2 hB
/-- One element of an owned row at whose head the slice lies. -/
theorem own_head {w : World} {base : Nat} {e : TypeId} {size n c : Nat} {A : Option Addr} {xs : List Value} (h : w.ownsRow base e size (.slice A n c) n xs) (hn : 0 < n) : ∃ g, A = some ⟨g, 0, none⟩ ∧ base ≤ g ∧ g < w.heap.size := by
  rcases h.2 with ⟨_, h0⟩ | ⟨g, cap, cur, hv, hb, hh, _⟩
  · omega
  · exact ⟨g, by injection hv, hb, lt_of_block hh⟩
theorem own_store {w : World} {base : Nat} {e : TypeId} {size g n cap : Nat} {xs : List Value} (h : w.ownsRow base e size (.slice (some ⟨g, 0, none⟩) n cap) n xs) (j : Nat) (u : Value) :
    (w.setCell ⟨g, j, none⟩ u).ownsRow base e size (.slice (some ⟨g, 0, none⟩) n cap) n (xs.set j u) := (h.stored j u).1
theorem own_off {w : World} {base : Nat} {e : TypeId} {size n : Nat} {v : Value} {xs : List Value} (h : w.ownsRow base e size v n xs) {g j : Nat} {u : Value} (hg : v.ownBlock ≠ some g) : (w.setCell ⟨g, j, none⟩ u).ownsRow base e size v n xs := by
  refine ⟨h.1, ?_⟩
  rcases h.2 with h2 | ⟨k, cap, cur, rfl, hk, hh, r⟩
  · exact .inl h2
  · refine .inr ⟨k, cap, cur, rfl, hk, ?_, r⟩
    rw [heap_setCell_other]
    · exact hh
    · intro e
      exact hg (by rw [e]; rfl)
theorem own_kept {w w' : World} {base base' : Nat} {e : TypeId} {size n : Nat} {v : Value} {xs : List Value} {row : Option Nat} (h : w.ownsRow base e size v n xs) (hg : w.grownBy w' row) (hv : ∀ k, v.ownBlock = some k → k < base') (hr : ∀ k, row = some k → base' ≤ k) : w'.ownsRow base e size v n xs := by
  refine h.kept hg ?_
  cases hvb : v.ownBlock with
  | none => exact .inl rfl
  | some k =>
    refine .inr fun e => ?_
    have h1 := hv k hvb
    have h2 := hr k e.symm
    omega
end Go.Proofs.YtnkojoajcdhngaaDoor
