/- Layer 9: what memory holds while the program's rounds are made. -/
import Derived.Test.YthannibclhidcaaLeR
namespace Go.Proofs.Ythannibclhidcaa
set_option linter.unusedVariables false
set_option linter.unusedSimpArgs false
open Go.RowKit

def ups (l : List Int) : List Int := l.map (· + 1)
theorem ups_len (l : List Int) : (ups l).length = l.length := by simp [ups]
theorem ups_set (l : List Int) (i : Nat) (v : Int) : (ups l).set i (v + 1) = ups (l.set i v) := by simp [ups, List.map_set]
theorem ups_at (l : List Int) (i : Nat) (h : i < l.length) : (ups l).getD i 0 = l.getD i 0 + 1 := by simp [ups, List.getD, h]
theorem ups_start (n : Nat) : ups (List.replicate n (-1)) = List.replicate n 0 := by simp [ups]
def wcells (n gx gm : Nat) (last : Int) : Array Value := #[.slice (some ⟨gx, 0, none⟩) n n, .slice (some ⟨gm, 0, none⟩) n n, .int .i64 last]
structure PMem (B : Nat) (w : World) (A : Option Addr) (L : List T3) (n gx gm g4 g5 : Nat) (X M : List Int) (last : Int) (wr : World) : Prop where
  mem : RMem B w A L n gx gm X M wr
  b4 : wr.heap[g4]? = some (.cells #[.slice none 0 0, .slice none 0 0, .int .i64 0] 63 (0, 0))
  b5 : wr.heap[g5]? = some (.cells (wcells n gx gm last) 63 (0, 0))
  l4 : w.heap.size ≤ g4
  l5 : w.heap.size ≤ g5
  n45 : g4 ≠ g5
  n4x : g4 ≠ gx
  n4m : g4 ≠ gm
  n5x : g5 ≠ gx
  n5m : g5 ≠ gm
section
variable {B n gx gm g4 g5 : Nat} {w wr w' : World} {A : Option Addr} {L : List T3} {X M : List Int} {last : Int}
theorem blk_set (h : wr.heap[g5]? = some (.cells (wcells n gx gm last) 63 (0, 0))) (v : Int) : (wr.setCell ⟨g5, 2, none⟩ (.int .i64 v)).heap[g5]? = some (.cells (wcells n gx gm v) 63 (0, 0)) := by
  unfold World.setCell
  rw [Array.getElem?_modify, if_pos rfl, h]
  rfl
theorem PMem.on (h : PMem B w A L n gx gm g4 g5 X M last wr) (hb : Below wr.heap.size wr w') : PMem B w A L n gx gm g4 g5 X M last w' :=
  ⟨h.mem.on hb, (hb.block _ (blk_lt2 h.b4)).trans h.b4, (hb.block _ (blk_lt2 h.b5)).trans h.b5, h.l4, h.l5, h.n45, h.n4x, h.n4m, h.n5x, h.n5m⟩
theorem PMem.alloc (h : PMem B w A L n gx gm g4 g5 X M last wr) (o : Obj) : PMem B w A L n gx gm g4 g5 X M last (wr.alloc o) := h.on ((Below.refl _ _).alloc (Nat.le_refl _) o)
theorem PMem.storeX (h : PMem B w A L n gx gm g4 g5 X M last wr) (hB : B ≤ w.heap.size) (i : Nat) (u : Int) : PMem B w A L n gx gm g4 g5 (X.set i u) M last (wr.setCell ⟨gx, i, none⟩ (.int .i64 u)) :=
  ⟨h.mem.storeX hB i u, by rw [heap_setCell_other _ _ _ _ h.n4x]; exact h.b4, by rw [heap_setCell_other _ _ _ _ h.n5x]; exact h.b5, h.l4, h.l5, h.n45, h.n4x, h.n4m, h.n5x, h.n5m⟩
theorem PMem.storeM (h : PMem B w A L n gx gm g4 g5 X M last wr) (hB : B ≤ w.heap.size) (i : Nat) (u : Int) : PMem B w A L n gx gm g4 g5 X (M.set i u) last (wr.setCell ⟨gm, i, none⟩ (.int .i64 u)) :=
  ⟨h.mem.storeM hB i u, by rw [heap_setCell_other _ _ _ _ h.n4m]; exact h.b4, by rw [heap_setCell_other _ _ _ _ h.n5m]; exact h.b5, h.l4, h.l5, h.n45, h.n4x, h.n4m, h.n5x, h.n5m⟩
theorem PMem.storeL (h : PMem B w A L n gx gm g4 g5 X M last wr) (hB : B ≤ w.heap.size) (v : Int) : PMem B w A L n gx gm g4 g5 X M v (wr.setCell ⟨g5, 2, none⟩ (.int .i64 v)) :=
  ⟨⟨h.mem.below.setCell (p := ⟨g5, 2, none⟩) h.l5 _, h.mem.arg.below ((Below.refl B wr).setCell (p := ⟨g5, 2, none⟩) (Nat.le_trans hB h.l5) _), own_off h.mem.ox (fun e => h.n5x (by injection e with e; exact e.symm)), own_off h.mem.om (fun e => h.n5m (by injection e with e; exact e.symm)), h.mem.ne⟩,
    by rw [heap_setCell_other _ _ _ _ h.n45]; exact h.b4, blk_set h.b5 v, h.l4, h.l5, h.n45, h.n4x, h.n4m, h.n5x, h.n5m⟩
theorem PMem.cells (h : PMem B w A L n gx gm g4 g5 X M last wr) : wr.cell? ⟨g5, 0, none⟩ = some (.slice (some ⟨gx, 0, none⟩) n n) ∧ wr.cell? ⟨g5, 1, none⟩ = some (.slice (some ⟨gm, 0, none⟩) n n) ∧ wr.cell? ⟨g5, 2, none⟩ = some (.int .i64 last) ∧ wr.frozen? ⟨g5, 2, none⟩ = false := by
  have h1 := blk_cell h.b5
  exact ⟨by rw [h1 0]; rfl, by rw [h1 1]; rfl, by rw [h1 2]; rfl, blk_frozen h.b5 2⟩
theorem PMem.result (h : PMem B w A L n gx gm g4 g5 X M last wr) (u0 u1 u2 : Value) : (((wr.setCell ⟨g4, 0, none⟩ u0).setCell ⟨g4, 1, none⟩ u1).setCell ⟨g4, 2, none⟩ u2).ownsRow w.heap.size 3 1 (.slice (some ⟨gx, 0, none⟩) n n) n (ints X) ∧ (((wr.setCell ⟨g4, 0, none⟩ u0).setCell ⟨g4, 1, none⟩ u1).setCell ⟨g4, 2, none⟩ u2).ownsRow w.heap.size 3 1 (.slice (some ⟨gm, 0, none⟩) n n) n (ints M) ∧ Below w.heap.size w (((wr.setCell ⟨g4, 0, none⟩ u0).setCell ⟨g4, 1, none⟩ u1).setCell ⟨g4, 2, none⟩ u2) := by
  have e1 : (Value.slice (some ⟨gx, 0, none⟩) n n).ownBlock ≠ some g4 := fun e => h.n4x (by injection e with e; exact e.symm)
  have e2 : (Value.slice (some ⟨gm, 0, none⟩) n n).ownBlock ≠ some g4 := fun e => h.n4m (by injection e with e; exact e.symm)
  exact ⟨own_off (own_off (own_off h.mem.ox e1) e1) e1, own_off (own_off (own_off h.mem.om e2) e2) e2, ((h.mem.below.setCell (p := ⟨g4, 0, none⟩) h.l4 _).setCell (p := ⟨g4, 1, none⟩) h.l4 _).setCell (p := ⟨g4, 2, none⟩) h.l4 _⟩
end
def RPPost (n : Nat) (L : List T3) (w : World) (e : Ending) (w' : World) : Prop := ∃ gx gm k, e = .returned (.agg #[.slice (some ⟨gx, 0, none⟩) n n, .slice (some ⟨gm, 0, none⟩) n n, .int .i64 k]) ∧ k = (fin n L).last + 1 ∧ gx ≠ gm ∧ w'.ownsRow w.heap.size 3 1 (.slice (some ⟨gx, 0, none⟩) n n) n (ints (fin n L).x) ∧ w'.ownsRow w.heap.size 3 1 (.slice (some ⟨gm, 0, none⟩) n n) n (ints (ups (fin n L).m)) ∧ Below w.heap.size w w'
end Go.Proofs.Ythannibclhidcaa
