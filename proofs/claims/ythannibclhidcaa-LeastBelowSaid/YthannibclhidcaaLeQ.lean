/- Layer 9: what memory holds while numbers are written over; bounds of the call's own. -/
import Derived.Test.YthannibclhidcaaLeLp
import Derived.Maps.AppendAt
namespace Go.Proofs.Ythannibclhidcaa
set_option linter.unusedVariables false
set_option linter.unusedSimpArgs false
open Go.RowKit

structure QMem (B : Nat) (w : World) (A : Option Addr) (L : List T3) (n gx : Nat) (X : List Int) (wr : World) : Prop where
  below : Below w.heap.size w wr
  arg : At B wr A (t3s L)
  ox : wr.ownsRow w.heap.size 3 1 (.slice (some ⟨gx, 0, none⟩) n n) n (ints X)
section
variable {B n gx : Nat} {w wr w' : World} {A : Option Addr} {L : List T3} {X : List Int}
theorem QMem.size (h : QMem B w A L n gx X wr) : w.heap.size ≤ wr.heap.size := h.below.size
theorem QMem.gxl (h : QMem B w A L n gx X wr) : w.heap.size ≤ gx ∧ gx < wr.heap.size := h.ox.lt gx rfl
theorem QMem.on (h : QMem B w A L n gx X wr) (hb : Below wr.heap.size wr w') : QMem B w A L n gx X w' :=
  ⟨h.below.trans (hb.mono h.size), h.arg.ext hb, own_below' h.ox hb⟩
theorem QMem.alloc (h : QMem B w A L n gx X wr) (o : Obj) : QMem B w A L n gx X (wr.alloc o) := h.on ((Below.refl _ _).alloc (Nat.le_refl _) o)
theorem QMem.storeX (h : QMem B w A L n gx X wr) (hB : B ≤ w.heap.size) (i : Nat) (u : Int) : QMem B w A L n gx (X.set i u) (wr.setCell ⟨gx, i, none⟩ (.int .i64 u)) := by
  have h1 := own_store h.ox i (.int .i64 u)
  rw [ints_set] at h1
  exact ⟨h.below.setCell (p := ⟨gx, i, none⟩) h.gxl.1 _, h.arg.below ((Below.refl B wr).setCell (p := ⟨gx, i, none⟩) (Nat.le_trans hB h.gxl.1) _), h1⟩
theorem QMem.cellX (h : QMem B w A L n gx X wr) (hX : X.length = n) {i : Nat} (hi : i < n) : wr.cell? ⟨gx, i, none⟩ = some (.int .i64 (X.getD i 0)) ∧ wr.frozen? ⟨gx, i, none⟩ = false :=
  ⟨cell_made h.ox hX hi, h.ox.frozenAt i⟩
end
theorem fill_step (n k : Nat) (a : Int) (h : k < n) : (List.replicate k a ++ List.replicate (n - k) 0).set k a = List.replicate (k + 1) a ++ List.replicate (n - (k + 1)) 0 := by
  apply List.ext_getElem
  · simp; omega
  · intro i h1 h2
    simp only [List.getElem_set, List.getElem_append, List.length_replicate, List.getElem_replicate]
    split
    · split <;> first | rfl | omega
    · split <;> split <;> first | rfl | omega
/-- Numbers told from above. -/
def dn (c : Int) (l : List Int) : List Int := l.map fun z => c - z
theorem dn_len (c : Int) (l : List Int) : (dn c l).length = l.length := by simp [dn]
theorem dn_set (c : Int) (l : List Int) (i : Nat) (v : Int) : (dn c l).set i (c - v) = dn c (l.set i v) := by simp [dn, List.map_set]
theorem dn_at (c : Int) (l : List Int) (i : Nat) (h : i < l.length) : (dn c l).getD i 0 = c - l.getD i 0 := by simp [dn, List.getD, h]
theorem dn_start (c : Int) (n : Nat) : dn c (start n).x = List.replicate n c := by simp [dn, start]
section
variable {ops : Array Oper} {rest : List Oper} {o : Oper} {a : Act} {Q : Exit → Act → World → Prop} {w : World}
theorem append_bound (hgd : o.guard = none) (s x : Operand) (ho : o.op = .call { callee := .builtin .append, args := #[s, x], argTypes := #[43, 43] }) (base : Nat) (v : Value) (l : List T3) (t : T3) (g : Nat)
    (hs : a.eval s = v) (hx : a.eval x = .slice (some ⟨g, 0, none⟩) 1 1) (hown : w.ownsRow base 54 3 v l.length (t3s l)) (h0 : w.cell? ⟨g, 0, none⟩ = some (.int .i64 t.p)) (h1 : w.cell? ⟨g, 1, none⟩ = some (.int .i64 t.q)) (h2 : w.cell? ⟨g, 2, none⟩ = some (.int .i64 t.r)) (hn : (l.length + 1) * 24 ≤ 140737488355328) (hbase : base ≤ w.heap.size)
    (h : ∀ v' w', w'.ownsRow base 54 3 v' (l ++ [t]).length (t3s (l ++ [t])) → w.grownBy w' v.ownBlock → v' ≠ .slice none 0 0 → wpList Try.prog ops Q rest (a.put o.dst v') w') : wpList Try.prog ops Q (o :: rest) a w := by
  obtain ⟨i0, hi, hz0, hz1, hz2⟩ := info_parts info_bound
  refine wpList_append_own w hgd s x 43 ho base 54 i0 _ 3 24 Try.underlying43 hi hz0 hz1 hz2 rfl (by decide) v l.length (t3s l) hs hown ⟨g, 0, none⟩ 1 1 (t3s [t]) hx rfl (fun j u hj => ?_) (t3s_one _) (by unfold maxLen; omega) (by omega) hbase (fun v' w' h4 h5 h6 => ?_)
  · match j, hj with
    | 0, hj => simp [t3s] at hj; subst hj; simpa [Addr.add] using h0
    | 1, hj => simp [t3s] at hj; subst hj; simpa [Addr.add] using h1
    | 2, hj => simp [t3s] at hj; subst hj; simpa [Addr.add] using h2
    | j + 3, hj => simp [t3s] at hj
  · refine h v' w' (by rw [t3s_append, List.length_append]; exact h4) h5 (fun e => ?_)
    have := (h6.1 e).2
    omega
theorem append_int_at (hgd : o.guard = none) (s x : Operand) (ho : o.op = .call { callee := .builtin .append, args := #[s, x], argTypes := #[22, 22] }) (base : Nat) (v : Value) (l : List Int) (n : Int) (g : Nat)
    (hs : a.eval s = v) (hx : a.eval x = .slice (some ⟨g, 0, none⟩) 1 1) (hown : w.ownsRow base 3 1 v l.length (ints l)) (h0 : w.cell? ⟨g, 0, none⟩ = some (.int .i64 n)) (hn : l.length ≤ 1000000) (hbase : base ≤ w.heap.size)
    (h : ∀ v' w', w'.ownsRow base 3 1 v' (l ++ [n]).length (ints (l ++ [n])) → w.grownBy w' v.ownBlock → (v'.ownBlock = v.ownBlock ∨ v'.ownBlock = some w.heap.size) → wpList Try.prog ops Q rest (a.put o.dst v') w') : wpList Try.prog ops Q (o :: rest) a w := by
  obtain ⟨i0, hi, hz0, hz1, hz2⟩ := info_parts info_int
  refine wpList_append_own_at w hgd s x 22 ho base 3 i0 _ 1 8 Try.underlying22 hi hz0 hz1 hz2 rfl (by decide) v l.length (ints l) hs hown ⟨g, 0, none⟩ 1 1 (ints [n]) hx rfl (fun j u hj => ?_) (ints_one _) (by unfold maxLen; omega) (by omega) hbase (fun v' w' h4 h5 _ h6 => ?_)
  · match j, hj with
    | 0, hj => simp [ints] at hj; subst hj; simpa [Addr.add] using h0
    | j + 1, hj => simp [ints] at hj
  · exact h v' w' (by rw [ints_append, List.length_append]; exact h4) h5 h6
end

/-! One round more, from above. -/
structure MSt (n : Nat) (L : List T3) (f : Nat) (s : St) : Prop where
  eq : roundsB L (f + 1) s = roundsB L (n + 1) (start n)
  inv : ∃ K t, Inv n L K 0 ⟨s.x, s.m, -1⟩ t ∧ K + f * L.length ≤ n * L.length
  le : f ≤ n
structure MMid (n : Nat) (L : List T3) (f i : Nat) (s r : St) : Prop where
  eq : r = stepsB L i ⟨s.x, s.m, -1⟩
  inv : ∃ K t, Inv n L K i r t ∧ K + f * L.length ≤ n * L.length
theorem MSt.start (n : Nat) (L : List T3) : MSt n L n (start n) := ⟨rfl, ⟨0, _, Inv.start n L, by omega⟩, Nat.le_refl _⟩
theorem MSt.mid {n : Nat} {L : List T3} {f : Nat} {s : St} (h : MSt n L f s) : MMid n L f 0 s ⟨s.x, s.m, -1⟩ := ⟨rfl, h.inv⟩
theorem MMid.next {n : Nat} {L : List T3} {f i : Nat} {s r : St} (h : MMid n L f i s r) (hL : okL n L) (hi : i < L.length) : MMid n L f (i + 1) s (stepB i (bk L i) r) := by
  obtain ⟨e, K, t, hI, hK⟩ := h
  obtain ⟨t', h'⟩ := hI.step hL hi
  exact ⟨by rw [e]; rfl, K, t', h', hK⟩
theorem MMid.val {n : Nat} {L : List T3} {f i : Nat} {s r : St} (h : MMid n L f i s r) (hn : n ≤ 4096) (hl : L.length ≤ 4096) (hi : i ≤ L.length) : RVal n i r := by
  obtain ⟨_, K, t, hI, hK⟩ := h
  refine ⟨hI.xl, hI.ml, fun v hv => ?_, ?_⟩
  · have := hI.bd v hv
    have h2 : n * L.length ≤ 4096 * 4096 := Nat.mul_le_mul hn hl
    omega
  · rcases hI.last with ⟨e, _⟩ | ⟨v, hv, e, _⟩ <;> omega
theorem MMid.stop {n : Nat} {L : List T3} {f : Nat} {s r : St} (h : MMid n L f L.length s r) (hs : MSt n L f s) (hL : okL n L) (hf : (fin n L).last = -1) (hl : r.last = -1) : r.x = (fin n L).x := by
  have e : r = roundB L s := h.eq
  rw [← (fin_more hL hf).1, ← hs.eq]
  rw [e] at hl ⊢
  simp only [roundsB, hl, if_true]
theorem MMid.more {n : Nat} {L : List T3} {f : Nat} {s r : St} (h : MMid n L f L.length s r) (hs : MSt n L f s) (hL : okL n L) (hf : (fin n L).last = -1) (hl : ¬ r.last = -1) : ∃ f', f = f' + 1 ∧ MSt n L f' r := by
  have e : r = roundB L s := h.eq
  have h1 := hs.eq
  have h2 : roundsB L (f + 1) s = roundsB L f r := by
    rw [e] at hl ⊢
    rw [roundsB, if_neg hl]
  cases f with
  | zero =>
    exfalso
    have h3 := (fin_more hL hf).2
    rw [← h1, h2] at h3
    exact hl h3
  | succ f =>
    refine ⟨f, rfl, by rw [← h1, h2], ?_, by have := hs.le; omega⟩
    obtain ⟨_, K, t, hI, hK⟩ := h
    rw [Nat.add_mul] at hK
    exact ⟨K + L.length, t, hI.next, by omega⟩
theorem top_vals {m : Nat} {L : List T3} {most : Int} (h0 : chkN m L = 0) : (topOk most = false → topE m L most = 2 ∧ topR m L most = []) ∧ (topOk most = true → (fin m L).last ≠ -1 → topE m L most = 90 ∧ topR m L most = []) ∧ (topOk most = true → (fin m L).last = -1 → topL m L most = dn most (fin m (turnL L)).x ∧ ((∀ v ∈ dn most (fin m (turnL L)).x, 0 ≤ v) → topE m L most = 0 ∧ topR m L most = dn most (fin m (turnL L)).x) ∧ (∀ v ∈ dn most (fin m (turnL L)).x, v < 0 → topE m L most = 90 ∧ topR m L most = [])) := by
  refine ⟨fun h => ?_, fun h hl => ?_, fun h hl => ⟨rfl, fun ha => ?_, fun v hv hn => ?_⟩⟩
  · have e : topE m L most = 2 := by
      unfold topE
      rw [if_pos h0, if_neg (by simp [h])]
    exact ⟨e, topR_nil (by omega)⟩
  · have e : topE m L most = 90 := by
      unfold topE
      rw [if_pos h0, if_pos h, if_neg (by simpa using hl)]
    exact ⟨e, topR_nil (by omega)⟩
  · have e : topE m L most = 0 := by
      unfold topE
      rw [if_pos h0, if_pos h, if_pos (by simpa using hl), if_pos]
      exact List.all_eq_true.2 fun v hv => by simpa using ha v hv
    refine ⟨e, ?_⟩
    unfold topR
    rw [if_pos e]
    rfl
  · have e : topE m L most = 90 := by
      unfold topE
      rw [if_pos h0, if_pos h, if_pos (by simpa using hl), if_neg]
      intro h2
      have := List.all_eq_true.1 h2 v hv
      simp only [decide_eq_true_eq] at this
      omega
    exact ⟨e, topR_nil (by omega)⟩
end Go.Proofs.Ythannibclhidcaa
