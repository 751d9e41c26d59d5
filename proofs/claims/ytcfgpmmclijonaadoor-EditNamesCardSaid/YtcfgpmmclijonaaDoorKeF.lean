/- Layer 21: a key's text, read, both sides. -/
import Derived.Test.YtcfgpmmclijonaaDoorKeE
namespace Go.Proofs.YtcfgpmmclijonaaDoor
set_option linter.unusedVariables false
set_option linter.unusedSimpArgs false
set_option maxRecDepth 100000
open Go.RowKit Go.Shelf Go.Lib
set_option maxRecDepth 100000
set_option maxHeartbeats 4000000

theorem modL_cases (l : By) : ((modL l).1 = 0 ∧ (modL l).2 = 0) ∨ (((modL l).1 = 1 ∨ (modL l).1 = 2 ∨ (modL l).1 = 4) ∧ 4 ≤ (modL l).2 ∧ (modL l).2 ≤ l.length) := by
  rw [modL_eq]
  split
  · next h => right; exact ⟨.inr (.inl rfl), by simp, (List.isPrefixOf_iff_prefix.1 h).length_le⟩
  · split
    · next h => right; exact ⟨.inr (.inr rfl), by simp, (List.isPrefixOf_iff_prefix.1 h).length_le⟩
    · split
      · next h => right; exact ⟨.inl rfl, by simp, (List.isPrefixOf_iff_prefix.1 h).length_le⟩
      · left; exact ⟨rfl, rfl⟩
theorem parseG_at (f md at_ : Nat) (l : By) : parseG (f + 1) md at_ l = if (modL l).1 = 0 then (if nmB l then (⟨l, md⟩, 0, 0) else (noKy, at_, 210)) else if md &&& (modL l).1 ≠ 0 then (noKy, at_, 210) else parseG f (md ||| (modL l).1) (at_ + (modL l).2) (l.drop (modL l).2) := rfl
def strLen : Value → Nat | .string r => r.size | _ => 0
/-- Two cells of a key's box. -/
structure Box2 (w : World) (b : Nat) (nm : ByteArray) (md : Nat) : Prop where
  c0 : w.cell? ⟨b, 0, none⟩ = some (.string nm)
  c1 : w.cell? ⟨b, 1, none⟩ = some (.int .u8 (md : Int))
  f0 : w.frozen? ⟨b, 0, none⟩ = false
  f1 : w.frozen? ⟨b, 1, none⟩ = false
theorem Box2.of_heap {w : World} {b : Nat} {nm : ByteArray} {md : Nat} {t : TypeId} (h : w.heap[b]? = some (.cells #[.string nm, .int .u8 (md : Int)] t (0, 0))) : Box2 w b nm md :=
  ⟨by rw [blk_cell h]; rfl, by rw [blk_cell h]; rfl, blk_frozen h _, blk_frozen h _⟩
theorem Box2.below {B : Nat} {w w' : World} {b : Nat} {nm : ByteArray} {md : Nat} (h : Box2 w b nm md) (hb : Below B w w') (hlt : b < B) : Box2 w' b nm md :=
  ⟨by rw [hb.cell (p := ⟨b, 0, none⟩) hlt]; exact h.c0, by rw [hb.cell (p := ⟨b, 1, none⟩) hlt]; exact h.c1, by rw [hb.frozen (p := ⟨b, 0, none⟩) hlt]; exact h.f0, by rw [hb.frozen (p := ⟨b, 1, none⟩) hlt]; exact h.f1⟩
theorem Box2.set1 {w : World} {b : Nat} {nm : ByteArray} {md : Nat} (h : Box2 w b nm md) (md' : Nat) : Box2 (w.setCell ⟨b, 1, none⟩ (.int .u8 (md' : Int))) b nm md' := by
  refine ⟨?_, World.cell?_setCell_same' _ _ _ (by rw [h.c1]; rfl), by rw [World.frozen?_setCell]; exact h.f0, by rw [World.frozen?_setCell]; exact h.f1⟩
  have := h.c0
  have h1 := h.c1
  simp [go_sem, *]
theorem Box2.off {w : World} {b : Nat} {nm : ByteArray} {md : Nat} (h : Box2 w b nm md) {p : Addr} (hp : b ≠ p.block) (v : Value) : Box2 (w.setCell p v) b nm md :=
  have e := Below.heap_setCell w p v b hp
  ⟨(World.cell?_of_block (w := w) e).trans h.c0, (World.cell?_of_block (w := w) e).trans h.c1, (World.frozen?_of_block (w := w) e).trans h.f0, (World.frozen?_of_block (w := w) e).trans h.f1⟩
/-! ### the reference's -/
end Go.Proofs.YtcfgpmmclijonaaDoor
