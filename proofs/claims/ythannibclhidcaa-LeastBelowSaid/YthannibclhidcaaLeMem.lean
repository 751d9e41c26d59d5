/- Layer 9: what memory holds while rounds are made. -/
import Derived.Test.YthannibclhidcaaLeA
import Derived.Test.YthannibclhidcaaShMem
namespace Go.Proofs.Ythannibclhidcaa
set_option linter.unusedVariables false
set_option linter.unusedSimpArgs false
open Go.RowKit

structure RMem (B : Nat) (w : World) (A : Option Addr) (L : List T3) (n gx gm : Nat) (X M : List Int) (wr : World) : Prop where
  below : Below w.heap.size w wr
  arg : At B wr A (t3s L)
  ox : wr.ownsRow w.heap.size 3 1 (.slice (some ⟨gx, 0, none⟩) n n) n (ints X)
  om : wr.ownsRow w.heap.size 3 1 (.slice (some ⟨gm, 0, none⟩) n n) n (ints M)
  ne : gx ≠ gm
section
variable {B n gx gm : Nat} {w wr w' : World} {A : Option Addr} {L : List T3} {X M : List Int}
theorem RMem.size (h : RMem B w A L n gx gm X M wr) : w.heap.size ≤ wr.heap.size := h.below.size
theorem RMem.gxl (h : RMem B w A L n gx gm X M wr) : w.heap.size ≤ gx ∧ gx < wr.heap.size := h.ox.lt gx rfl
theorem RMem.gml (h : RMem B w A L n gx gm X M wr) : w.heap.size ≤ gm ∧ gm < wr.heap.size := h.om.lt gm rfl
theorem RMem.alloc (h : RMem B w A L n gx gm X M wr) (o : Obj) : RMem B w A L n gx gm X M (wr.alloc o) :=
  ⟨h.below.alloc h.size o, h.arg.ext ((Below.refl _ _).alloc (Nat.le_refl _) o), h.ox.alloc o, h.om.alloc o, h.ne⟩
theorem RMem.on (h : RMem B w A L n gx gm X M wr) (hb : Below wr.heap.size wr w') : RMem B w A L n gx gm X M w' :=
  ⟨h.below.trans (hb.mono h.size), h.arg.ext hb, own_below' h.ox hb, own_below' h.om hb, h.ne⟩
theorem RMem.storeX (h : RMem B w A L n gx gm X M wr) (hB : B ≤ w.heap.size) (i : Nat) (u : Int) : RMem B w A L n gx gm (X.set i u) M (wr.setCell ⟨gx, i, none⟩ (.int .i64 u)) := by
  have h1 := own_store h.ox i (.int .i64 u)
  rw [ints_set] at h1
  exact ⟨h.below.setCell (p := ⟨gx, i, none⟩) h.gxl.1 _, h.arg.below ((Below.refl B wr).setCell (p := ⟨gx, i, none⟩) (Nat.le_trans hB h.gxl.1) _), h1, own_off h.om (fun e => h.ne (by injection e with e; exact e.symm)), h.ne⟩
theorem RMem.storeM (h : RMem B w A L n gx gm X M wr) (hB : B ≤ w.heap.size) (i : Nat) (u : Int) : RMem B w A L n gx gm X (M.set i u) (wr.setCell ⟨gm, i, none⟩ (.int .i64 u)) := by
  have h1 := own_store h.om i (.int .i64 u)
  rw [ints_set] at h1
  exact ⟨h.below.setCell (p := ⟨gm, i, none⟩) h.gml.1 _, h.arg.below ((Below.refl B wr).setCell (p := ⟨gm, i, none⟩) (Nat.le_trans hB h.gml.1) _), own_off h.ox (fun e => h.ne (by injection e)), h1, h.ne⟩
theorem RMem.cellX (h : RMem B w A L n gx gm X M wr) (hX : X.length = n) {i : Nat} (hi : i < n) : wr.cell? ⟨gx, i, none⟩ = some (.int .i64 (X.getD i 0)) ∧ wr.frozen? ⟨gx, i, none⟩ = false := by
  refine ⟨?_, h.ox.frozenAt i⟩
  rw [h.ox.cellAt i (by omega), ints_at X i (by omega)]
  simp [List.getD, show i < X.length by omega]
theorem RMem.cellM (h : RMem B w A L n gx gm X M wr) (hM : M.length = n) {i : Nat} (hi : i < n) : wr.cell? ⟨gm, i, none⟩ = some (.int .i64 (M.getD i 0)) ∧ wr.frozen? ⟨gm, i, none⟩ = false := by
  refine ⟨?_, h.om.frozenAt i⟩
  rw [h.om.cellAt i (by omega), ints_at M i (by omega)]
  simp [List.getD, show i < M.length by omega]
end
/-- The rounds still to make, and that what they come to is told. -/
structure RSt (n : Nat) (L : List T3) (k : Nat) (s : St) : Prop where
  fin : roundsB L (n - k) s = fin n L
  inv : ∃ K t, Inv n L K 0 ⟨s.x, s.m, -1⟩ t ∧ K ≤ k * L.length
theorem RSt.start (n : Nat) (L : List T3) : RSt n L 0 (start n) := ⟨rfl, 0, _, Inv.start n L, by omega⟩
/-- One round, in the midst. -/
structure RMid (n : Nat) (L : List T3) (k i : Nat) (s r : St) : Prop where
  eq : r = stepsB L i ⟨s.x, s.m, -1⟩
  inv : ∃ K t, Inv n L K i r t ∧ K ≤ k * L.length
theorem RSt.mid {n : Nat} {L : List T3} {k : Nat} {s : St} (h : RSt n L k s) : RMid n L k 0 s ⟨s.x, s.m, -1⟩ := ⟨rfl, h.inv⟩
theorem RMid.next {n : Nat} {L : List T3} {k i : Nat} {s r : St} (h : RMid n L k i s r) (hL : okL n L) (hi : i < L.length) : RMid n L k (i + 1) s (stepB i (bk L i) r) := by
  obtain ⟨e, K, t, hI, hK⟩ := h
  obtain ⟨t', h'⟩ := hI.step hL hi
  exact ⟨by rw [e]; rfl, K, t', h', hK⟩
theorem RMid.done {n : Nat} {L : List T3} {k : Nat} {s r : St} (h : RMid n L k L.length s r) : r = roundB L s := h.eq
theorem RMid.stop {n : Nat} {L : List T3} {k : Nat} {s r : St} (h : RMid n L k L.length s r) (hs : RSt n L k s) (hk : k < n) (hl : r.last = -1) : r = Go.Proofs.Ythannibclhidcaa.fin n L := by
  have e := h.done
  rw [← hs.fin, show n - k = (n - k - 1) + 1 by omega]
  rw [e] at hl ⊢
  simp only [roundsB, hl, if_true]
theorem RMid.more {n : Nat} {L : List T3} {k : Nat} {s r : St} (h : RMid n L k L.length s r) (hs : RSt n L k s) (hk : k < n) (hl : ¬ r.last = -1) : RSt n L (k + 1) r := by
  have e := h.done
  refine ⟨?_, ?_⟩
  · rw [← hs.fin, show n - k = (n - (k + 1)) + 1 by omega]
    rw [e] at hl ⊢
    simp only [roundsB, hl, if_false]
  · obtain ⟨_, K, t, hI, hK⟩ := h
    exact ⟨K + L.length, t, hI.next, by rw [Nat.add_mul]; omega⟩
theorem RSt.end_ {n : Nat} {L : List T3} {s : St} (h : RSt n L n s) : s = Go.Proofs.Ythannibclhidcaa.fin n L := by
  rw [← h.fin, Nat.sub_self]
  rfl
structure RVal (n : Nat) (i : Nat) (r : St) : Prop where
  xl : r.x.length = n
  ml : r.m.length = n
  bd : ∀ v, v < n → 0 ≤ r.x.getD v 0 ∧ r.x.getD v 0 ≤ 18000000000000
  last : -1 ≤ r.last ∧ r.last < n
theorem RMid.val {n : Nat} {L : List T3} {k i : Nat} {s r : St} (h : RMid n L k i s r) (hk : k ≤ 4096) (hl : L.length ≤ 4096) (hi : i ≤ L.length) : RVal n i r := by
  obtain ⟨_, K, t, hI, hK⟩ := h
  refine ⟨hI.xl, hI.ml, fun v hv => ?_, ?_⟩
  · have := hI.bd v hv
    have h2 : k * L.length ≤ 4096 * 4096 := Nat.mul_le_mul hk hl
    omega
  · rcases hI.last with ⟨e, _⟩ | ⟨v, hv, e, _⟩ <;> omega
theorem step_hot {i : Nat} {p q : Nat} {r : Int} {s : St} (h : s.x.getD q 0 < s.x.getD p 0 + r) : stepB i ⟨(p : Int), (q : Int), r⟩ s = ⟨s.x.set q (s.x.getD p 0 + r), s.m.set q (i : Int), (q : Int)⟩ := by
  unfold stepB gi
  simp only [Int.toNat_natCast]
  rw [if_pos h]
theorem step_cold {i : Nat} {p q : Nat} {r : Int} {s : St} (h : ¬ s.x.getD q 0 < s.x.getD p 0 + r) : stepB i ⟨(p : Int), (q : Int), r⟩ s = s := by
  unfold stepB gi
  simp only [Int.toNat_natCast]
  rw [if_neg h]
end Go.Proofs.Ythannibclhidcaa
