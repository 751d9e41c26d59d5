/- Memory across turns of a few blocks: a box, an owned row; what a round's body keeps. -/
import Derived.Test.YtnkojoajcdhngaaDoorMem
import Derived.Test.YtnkojoajcdhngaaDoorRfAb
namespace Go.Proofs.YtnkojoajcdhngaaDoor
set_option linter.unusedVariables false
set_option linter.unusedSimpArgs false
set_option maxRecDepth 100000
open Go.RowKit

/-- A box of one cell. -/
structure Box1 (w : World) (b : Nat) (v : Value) : Prop where
  c : w.cell? ⟨b, 0, none⟩ = some v
  f : w.frozen? ⟨b, 0, none⟩ = false
theorem Box1.lt {w : World} {b : Nat} {v : Value} (h : Box1 w b v) : b < w.heap.size := World.block_lt_of_cell? _ _ h.c
theorem Box1.of_heap {w : World} {b : Nat} {v : Value} {t : TypeId} (h : w.heap[b]? = some (.cells #[v] t (0, 0))) : Box1 w b v := ⟨by rw [blk_cell h]; rfl, blk_frozen h _⟩
theorem Box1.same {w w' : World} {b : Nat} {v : Value} (h : Box1 w b v) (e : w'.heap[b]? = w.heap[b]?) : Box1 w' b v := ⟨(World.cell?_of_block (w := w) e).trans h.c, (World.frozen?_of_block (w := w) e).trans h.f⟩
theorem Box1.turn {C : Nat → Prop} {w w' : World} {b : Nat} {v : Value} (h : Box1 w b v) (t : Turn C w w') (hb : ¬ C b) : Box1 w' b v := h.same (t.block b h.lt hb)
theorem Box1.below {B : Nat} {w w' : World} {b : Nat} {v : Value} (h : Box1 w b v) (hb : Below B w w') (hlt : b < B) : Box1 w' b v := h.same (hb.block b hlt)
theorem Box1.set {w : World} {b : Nat} {v : Value} (h : Box1 w b v) (v' : Value) : Box1 (w.setCell ⟨b, 0, none⟩ v') b v' := ⟨World.cell?_setCell_same' _ _ _ (by rw [h.c]; rfl), by rw [World.frozen?_setCell]; exact h.f⟩
theorem Box1.off {w : World} {b : Nat} {v : Value} (h : Box1 w b v) {p : Addr} (hp : b ≠ p.block) (v' : Value) : Box1 (w.setCell p v') b v := h.same (Below.heap_setCell w p v' b hp)
theorem Box1.alloc {w : World} {b : Nat} {v : Value} (h : Box1 w b v) (o : Obj) : Box1 (w.alloc o) b v := h.same (Below.heap_alloc w o b h.lt)
theorem Box1.grown {w w' : World} {b : Nat} {v : Value} {row : Option Nat} (h : Box1 w b v) (hg : w.grownBy w' row) (hr : ∀ k, row = some k → k ≠ b) : Box1 w' b v := h.same (hg.block b h.lt (fun e => hr b e.symm rfl))
theorem own_turn {C : Nat → Prop} {w w' : World} {base : Nat} {e : TypeId} {size n : Nat} {v : Value} {xs : List Value} (h : w.ownsRow base e size v n xs) (t : Turn C w w') (hC : ∀ k, base ≤ k → ¬ C k) : w'.ownsRow base e size v n xs := by
  refine ⟨h.1, ?_⟩
  rcases h.2 with h2 | ⟨g, cap, cur, hv, hg, hh, r⟩
  · exact .inl h2
  · exact .inr ⟨g, cap, cur, hv, hg, (t.block g (lt_of_block hh) (hC g hg)).trans hh, r⟩
theorem below_turn {C : Nat → Prop} {B : Nat} {a w w' : World} (h : Below B a w) (hB : B ≤ a.heap.size) (t : Turn C w w') (hC : ∀ k, k < B → ¬ C k) : Below B a w' :=
  h.trans ⟨t.os, t.tape, t.output, t.size, fun k hk => t.block k (by have := h.size; omega) (hC k hk)⟩
theorem Turn.grown {C : Nat → Prop} {w w' : World} {row : Option Nat} (h : w.grownBy w' row) (hr : ∀ k, row = some k → C k) : Turn C w w' :=
  ⟨h.os, h.tape, h.output, h.size, fun k hk hn => h.block k hk (fun e => hn (hr k e.symm))⟩
theorem keeps_below {w w' : World} (h : Below w.heap.size w w') : KeepsOthers w w' := ⟨h.size, fun k o hk _ => (h.block k (Array.getElem?_eq_some_iff.1 hk).1).trans hk⟩
theorem keeps_own {w w' : World} {base : Nat} {e : TypeId} {size n : Nat} {v : Value} {xs : List Value} (h : w.ownsRow base e size v n xs) (hg : w.grownBy w' v.ownBlock) : KeepsOthers w w' := by
  refine KeepsOthers.of_grownBy hg (fun j o hj ho => ?_)
  rcases h.2 with ⟨h2, _⟩ | ⟨g, cap, cur, rfl, _, hh, _⟩
  · rw [h2] at hj
    cases hj
  · have : j = g := by
      simp [Value.ownBlock] at hj
      exact hj.symm
    subst this
    rw [ho] at hh
    cases hh
    rfl
theorem Pin.of_turn {C R : Nat → Prop} {w w' : World} (t : Turn C w w') (hR : ∀ k, R k → k < w.heap.size ∧ ¬ C k) : Pin R w w' := ⟨t.size, fun k hk => t.block k (hR k hk).1 (hR k hk).2⟩
/-- Blocks laid one behind the other. -/
def allocs : World → List Obj → World
  | w, [] => w
  | w, o :: L => allocs (w.alloc o) L
theorem allocs_below : ∀ (L : List Obj) (w : World), Below w.heap.size w (allocs w L)
  | [], w => Below.refl _ _
  | o :: L, w => ((Below.refl _ w).alloc (Nat.le_refl _) o).trans ((allocs_below L (w.alloc o)).mono (by simp))
theorem allocs_size : ∀ (L : List Obj) (w : World), (allocs w L).heap.size = w.heap.size + L.length
  | [], w => rfl
  | o :: L, w => by
    show (allocs (w.alloc o) L).heap.size = _
    rw [allocs_size L (w.alloc o), World.size_alloc, List.length_cons]
    omega
theorem allocs_get : ∀ (L : List Obj) (w : World) (i : Nat) (o : Obj), L[i]? = some o → (allocs w L).heap[w.heap.size + i]? = some o
  | [], _, i, o, h => by simp at h
  | a :: L, w, 0, o, h => by
    have e : a = o := by simpa using h
    subst e
    show (allocs (w.alloc a) L).heap[w.heap.size + 0]? = _
    rw [(allocs_below L (w.alloc a)).block _ (by simp)]
    exact World.alloc_heap_new _ _
  | a :: L, w, i + 1, o, h => by
    have := allocs_get L (w.alloc a) i o (by simpa using h)
    rw [World.size_alloc] at this
    show (allocs (w.alloc a) L).heap[w.heap.size + (i + 1)]? = _
    rw [show w.heap.size + (i + 1) = w.heap.size + 1 + i by omega]
    exact this
end Go.Proofs.YtnkojoajcdhngaaDoor
