/- Layer 21: rows of keys in memory; one append; pieces of a text at its blanks, by places. -/
import Derived.Test.YtddigbhijfpmkaaDoorKeG
namespace Go.Proofs.YtddigbhijfpmkaaDoor
set_option linter.unusedVariables false
set_option linter.unusedSimpArgs false
set_option maxRecDepth 100000
open Go.RowKit Go.Shelf Go.Lib
set_option maxRecDepth 100000
set_option maxHeartbeats 4000000

def kys : List Ky → List Value
  | [] => []
  | k :: l => .string ⟨k.nm.toArray⟩ :: .int .u8 (k.md : Int) :: kys l
theorem kys_len : ∀ l : List Ky, (kys l).length = l.length * 2
  | [] => rfl
  | k :: l => by simp only [kys, List.length_cons, kys_len l]; omega
theorem kys_append : ∀ l m : List Ky, kys (l ++ m) = kys l ++ kys m
  | [], _ => rfl
  | k :: l, m => by simp [kys, kys_append l m]
theorem kys_one : ∀ l : List Ky, ∀ v ∈ kys l, v.oneCell' = true
  | [], v, h => by cases h
  | k :: l, v, h => by
    simp only [kys, List.mem_cons] at h
    rcases h with rfl | rfl | h
    · rfl
    · rfl
    · exact kys_one l v h
theorem kys_at : ∀ (l : List Ky) (k : Nat) (h : k < l.length), (kys l)[k * 2]? = some (.string ⟨l[k].nm.toArray⟩) ∧ (kys l)[k * 2 + 1]? = some (.int .u8 (l[k].md : Int))
  | [], k, h => absurd h (by simp)
  | a :: l, 0, _ => by simp [kys]
  | a :: l, k + 1, h => by
    have := kys_at l k (by simpa using h)
    rw [show (k + 1) * 2 = k * 2 + 2 by omega]
    simpa [kys] using this
theorem At.ky {B : Nat} {w : World} {A : Option Addr} {l : List Ky} (h : At B w A (kys l)) {k : Nat} (hk : k < l.length) : ∃ g o, A = some ⟨g, o, none⟩ ∧ g < B ∧ w.cell? ⟨g, o + k * 2, none⟩ = some (.string ⟨l[k].nm.toArray⟩) ∧ w.cell? ⟨g, o + k * 2 + 1, none⟩ = some (.int .u8 (l[k].md : Int)) := by
  obtain ⟨g, o, hA, hg, hc⟩ := h (by rw [kys_len]; omega)
  obtain ⟨h0, h1⟩ := kys_at l k hk
  exact ⟨g, o, hA, hg, hc _ _ h0, by rw [Nat.add_assoc]; exact hc _ _ h1⟩
theorem info_key : (Tryd.prog.info? 31).map (fun i => (i.zero, i.size, i.bytes)) = some (some (.agg #[.string { data := #[] }, .int .u8 0]), 2, 24) := by kernel_rfl
section
variable {ops : Array Oper} {rest : List Oper} {o : Oper} {a : Act} {Q : Exit → Act → World → Prop} {w : World}
theorem append_key (hgd : o.guard = none) (s x : Operand) (ho : o.op = .call { callee := .builtin .append, args := #[s, x], argTypes := #[23, 23] }) (base : Nat) (v : Value) (l : List Ky) (nm : ByteArray) (md : Nat) (g : Nat)
    (hs : a.eval s = v) (hx : a.eval x = .slice (some ⟨g, 0, none⟩) 1 1) (hown : w.ownsRow base 31 2 v l.length (kys l)) (h0 : w.cell? ⟨g, 0, none⟩ = some (.string nm)) (h1 : w.cell? ⟨g, 1, none⟩ = some (.int .u8 (md : Int))) (hn : l.length ≤ 1000000) (hbase : base ≤ w.heap.size)
    (h : ∀ v' w', w'.ownsRow base 31 2 v' (l ++ [(⟨nm.data.toList, md⟩ : Ky)]).length (kys (l ++ [(⟨nm.data.toList, md⟩ : Ky)])) → w.grownBy w' v.ownBlock → v' ≠ .slice none 0 0 → wpList Tryd.prog ops Q rest (a.put o.dst v') w') : wpList Tryd.prog ops Q (o :: rest) a w := by
  obtain ⟨i0, hi, hz0, hz1, hz2⟩ := info_parts info_key
  refine wpList_append_own w hgd s x 23 ho base 31 i0 _ 2 24 Tryd.underlying23 hi hz0 hz1 hz2 rfl (by decide) v l.length (kys l) hs hown ⟨g, 0, none⟩ 1 1 (kys [(⟨nm.data.toList, md⟩ : Ky)]) hx rfl (fun j u hj => ?_) (kys_one _) (by unfold maxLen; omega) (by omega) hbase (fun v' w' h4 h5 h6 => ?_)
  · match j, hj with
    | 0, hj => simp only [kys, ba_mk] at hj; cases hj; simpa [Addr.add] using h0
    | 1, hj => simp only [kys] at hj; cases hj; simpa [Addr.add] using h1
    | j + 2, hj => simp [kys] at hj
  · refine h v' w' (by rw [kys_append, List.length_append]; exact h4) h5 (fun e => ?_)
    have := (h6.1 e).2
    omega
end

/-! ### pieces by places -/
theorem cutB_no : ∀ p : By, (∀ b ∈ p, b ≠ 32) → cutB p = [p]
  | [], _ => rfl
  | b :: t, h => by
    rw [cutB_cons, if_neg (h b List.mem_cons_self), cutB_no t fun x hx => h x (List.mem_cons_of_mem _ hx)]
theorem cutB_at : ∀ (p t : By), (∀ b ∈ p, b ≠ 32) → cutB (p ++ 32 :: t) = p :: cutB t
  | [], t, _ => by rw [List.nil_append, cutB_cons, if_pos rfl]
  | b :: p, t, h => by
    rw [List.cons_append, cutB_cons, if_neg (h b List.mem_cons_self), cutB_at p t fun x hx => h x (List.mem_cons_of_mem _ hx)]
def NoBl (l : By) (a b : Nat) : Prop := ∀ j, a ≤ j → j < b → l.getD j 0 ≠ 32
theorem NoBl.mem {l : By} {a b : Nat} (h : NoBl l a b) (hb : b ≤ l.length) : ∀ x ∈ (l.take b).drop a, x ≠ 32 := by
  intro x hx
  obtain ⟨j, hj, rfl⟩ := List.getElem_of_mem hx
  rw [List.length_drop, List.length_take] at hj
  have := h (a + j) (by omega) (by omega)
  rw [List.getD_eq_getElem?_getD, List.getElem?_eq_getElem (by omega)] at this
  rw [List.getElem_drop, List.getElem_take]
  exact this
theorem split3 (l : By) (a b : Nat) (hab : a ≤ b) (hb : b ≤ l.length) : l.drop a = (l.take b).drop a ++ l.drop b := by
  conv => lhs; rw [← List.take_append_drop b l, List.drop_append, List.length_take]
  rw [show a - min b l.length = 0 by omega, List.drop_zero]
theorem cut_end {l : By} {a : Nat} (ha : a ≤ l.length) (h : NoBl l a l.length) : cutB (l.drop a) = [(l.take l.length).drop a] := by
  have hm := h.mem (Nat.le_refl _)
  rw [List.take_length] at hm ⊢
  exact cutB_no _ hm
theorem cut_blank {l : By} {a b : Nat} (hab : a ≤ b) (hb : b < l.length) (h : NoBl l a b) (h32 : l[b] = 32) : cutB (l.drop a) = (l.take b).drop a :: cutB (l.drop (b + 1)) := by
  rw [split3 l a b hab (by omega), List.drop_eq_getElem_cons hb, h32]
  exact cutB_at _ _ (h.mem (by omega))
theorem chordG_cons (acc : List Ky) (at_ : Nat) (p : By) (ps : List By) : chordG acc at_ (p :: ps) = if acc.length = 8 then ([], 0, 4) else if (parseL p).2.2 ≠ 0 then ([], at_ + (parseL p).2.1, (parseL p).2.2) else chordG (acc ++ [(parseL p).1]) (at_ + p.length + 1) ps := rfl
/-- What Chord answers. -/
def ChordP (w : World) (Z : List Ky × Nat × Nat) (e : Ending) (w' : World) : Prop :=
  ∃ A c, e = .returned (.tuple #[.slice A Z.1.length c, .int .i64 (Z.2.1 : Int), .int .i64 (Z.2.2 : Int)]) ∧ w'.ownsRow w.heap.size 31 2 (.slice A Z.1.length c) Z.1.length (kys Z.1) ∧ Below w.heap.size w w'
end Go.Proofs.YtddigbhijfpmkaaDoor
