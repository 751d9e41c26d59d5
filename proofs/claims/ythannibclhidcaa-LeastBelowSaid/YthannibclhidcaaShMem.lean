/- Layer 10: what memory holds while room is shared out: the row that is answered, the row of those who take part. -/
import Derived.Test.YthannibclhidcaaShPlain2
namespace Go.Proofs.Ythannibclhidcaa
set_option linter.unusedVariables false
set_option linter.unusedSimpArgs false
open Go.RowKit

def nats (P : List Nat) : List Int := P.map Int.ofNat
theorem nats_len (P : List Nat) : (nats P).length = P.length := by simp [nats]
theorem nats_append (P Q : List Nat) : nats (P ++ Q) = nats P ++ nats Q := by simp [nats]
theorem nats_at (P : List Nat) (k : Nat) (h : k < P.length) : (nats P)[k]'(by rw [nats_len]; exact h) = (P[k] : Int) := by simp [nats]
def outV (w : World) (n : Nat) : Value := .slice (some ⟨w.heap.size, 0, none⟩) n n
structure ShMem (B : Nat) (w : World) (A : Option Addr) (L : List T3) (n : Nat) (O : List Int) (wr : World) : Prop where
  below : Below w.heap.size w wr
  arg : At B wr A (t3s L)
  out : wr.ownsRow w.heap.size 3 1 (.slice (some ⟨w.heap.size, 0, none⟩) n n) n (ints O)
  size : w.heap.size + 1 ≤ wr.heap.size
def PRow (M : Nat) (wr : World) (v : Value) (P : List Nat) : Prop := ∃ AP cP, v = .slice AP P.length cP ∧ wr.ownsRow M 3 1 (.slice AP P.length cP) P.length (ints (nats P))

section
variable {B n M : Nat} {w wr : World} {A : Option Addr} {L : List T3} {O : List Int} {v : Value} {P : List Nat}
theorem ShMem.alloc (h : ShMem B w A L n O wr) (hB : B ≤ w.heap.size) (o : Obj) : ShMem B w A L n O (wr.alloc o) := by
  have hs := h.size
  exact ⟨h.below.alloc (by omega) o, h.arg.ext ((Below.refl _ _).alloc (Nat.le_refl _) o), h.out.alloc o, by simp; omega⟩
theorem ShMem.store (h : ShMem B w A L n O wr) (hB : B ≤ w.heap.size) (i : Nat) (u : Int) : ShMem B w A L n (O.set i u) (wr.setCell ⟨w.heap.size, i, none⟩ (.int .i64 u)) := by
  have h1 := own_store h.out i (.int .i64 u)
  rw [ints_set] at h1
  exact ⟨h.below.setCell (p := ⟨w.heap.size, i, none⟩) (Nat.le_refl _) _, h.arg.below ((Below.refl B wr).setCell (p := ⟨w.heap.size, i, none⟩) hB _), h1, by simpa using h.size⟩
theorem ShMem.grown {w' : World} {row : Option Nat} (h : ShMem B w A L n O wr) (hB : B ≤ w.heap.size) (hg : wr.grownBy w' row) (hr : ∀ k, row = some k → w.heap.size + 1 ≤ k) : ShMem B w A L n O w' := by
  have hs := h.size
  have hgs := hg.size
  exact ⟨h.below.grown hg (by omega) (fun k hk => by have := hr k hk; omega), h.arg.below ((Below.refl B wr).grown hg (by omega) (fun k hk => by have := hr k hk; omega)), own_kept h.out hg (base' := w.heap.size + 1) (fun k hk => by simp [Value.ownBlock] at hk; omega) hr, by omega⟩
theorem ShMem.below_ {w' : World} (h : ShMem B w A L n O wr) (hb : Below wr.heap.size wr w') : ShMem B w A L n O w' := by
  have hs := h.size
  have hbs := hb.size
  exact ⟨h.below.trans (hb.mono (by omega)), h.arg.ext hb, own_below' h.out hb, by omega⟩
theorem ShMem.cell (h : ShMem B w A L n O wr) {i : Nat} (hi : i < O.length) (hn : O.length = n) : wr.cell? ⟨w.heap.size, i, none⟩ = some (.int .i64 (O.getD i 0)) ∧ wr.frozen? ⟨w.heap.size, i, none⟩ = false := by
  refine ⟨?_, h.out.frozenAt i⟩
  rw [h.out.cellAt i (by omega), ints_at O i hi]
  simp [List.getD, hi]
theorem PRow.of_own {m : Nat} {xs : List Value} (h : wr.ownsRow M 3 1 v m xs) (hm : m = P.length) (hx : xs = ints (nats P)) : PRow M wr v P := by
  obtain ⟨A, c, rfl⟩ := own_shape h
  subst hm
  subst hx
  exact ⟨A, c, rfl, h⟩
theorem parts_cell {g c : Nat} (h : wr.ownsRow M 3 1 (.slice (some ⟨g, 0, none⟩) P.length c) P.length (ints (nats P))) {k : Nat} (hk : k < P.length) : wr.cell? ⟨g, k, none⟩ = some (.int .i64 (P[k] : Int)) := by
  rw [h.cellAt k (by omega), ints_at _ k (by rw [nats_len]; exact hk), nats_at P k hk]
theorem arg_cells {j : Nat} (h : At B wr A (t3s L)) (hj : j < L.length) : ∃ g o, A = some ⟨g, o, none⟩ ∧ g < B ∧ wr.cell? ⟨g, o + j * 3, none⟩ = some (.int .i64 (tk L j).p) ∧ wr.cell? ⟨g, o + j * 3 + 1, none⟩ = some (.int .i64 (tk L j).q) ∧ wr.cell? ⟨g, o + j * 3 + 2, none⟩ = some (.int .i64 (tk L j).r) := by
  rw [tk_at hj]
  exact h.t3 hj
theorem PRow.nil (M : Nat) (wr : World) : PRow M wr (.slice none 0 0) [] := ⟨none, 0, rfl, World.ownsRow_nil _ _ _ _⟩
theorem PRow.alloc (h : PRow M wr v P) (o : Obj) : PRow M (wr.alloc o) v P := by
  obtain ⟨AP, cP, rfl, h1⟩ := h
  exact ⟨AP, cP, rfl, h1.alloc o⟩
theorem PRow.store (h : PRow M wr v P) {b : Nat} (hb : b < M) (i : Nat) (u : Value) : PRow M (wr.setCell ⟨b, i, none⟩ u) v P := by
  obtain ⟨AP, cP, rfl, h1⟩ := h
  exact ⟨AP, cP, rfl, own_off h1 (fun e => by have := own_ge h1 b e; omega)⟩
theorem PRow.kept {w' : World} {row : Option Nat} {M' : Nat} (h : PRow M wr v P) (hg : wr.grownBy w' row) (hv : ∀ k, v.ownBlock = some k → k < M') (hr : ∀ k, row = some k → M' ≤ k) : PRow M w' v P := by
  obtain ⟨AP, cP, rfl, h1⟩ := h
  exact ⟨AP, cP, rfl, own_kept h1 hg hv hr⟩
theorem PRow.lt (h : PRow M wr v P) : ∀ k, v.ownBlock = some k → k < wr.heap.size := by
  obtain ⟨AP, cP, rfl, h1⟩ := h
  exact fun k hk => (h1.lt k hk).2
theorem PRow.ge (h : PRow M wr v P) : ∀ k, v.ownBlock = some k → M ≤ k := by
  obtain ⟨AP, cP, rfl, h1⟩ := h
  exact fun k hk => (h1.lt k hk).1
theorem PRow.mono {M' : Nat} (h : PRow M wr v P) (hM : M' ≤ M) : PRow M' wr v P := by
  obtain ⟨AP, cP, rfl, h1⟩ := h
  exact ⟨AP, cP, rfl, own_mono h1 hM⟩
end
theorem start_take (L : List T3) (k : Nat) : ((List.range (k + 1)).filter fun i => decide (0 < (tk L i).r)) = ((List.range k).filter fun i => decide (0 < (tk L i).r)) ++ if 0 < (tk L k).r then [k] else [] := by
  rw [List.range_succ, List.filter_append]
  congr 1
  by_cases h : 0 < (tk L k).r <;> simp [h]
theorem init_all (L : List T3) : ((List.range L.length).map fun i => (tk L i).p) = L.map (·.p) := by
  apply List.ext_getElem
  · simp
  · intro i h1 h2
    simp at h1
    simp [tk_at h1]
theorem mul_bd {a b c d : Int} (ha : 0 ≤ a ∧ a ≤ c) (hb : 0 ≤ b ∧ b ≤ d) : 0 ≤ a * b ∧ a * b ≤ c * d := by
  refine ⟨Int.mul_nonneg ha.1 hb.1, ?_⟩
  exact Int.le_trans (Int.mul_le_mul_of_nonneg_right ha.2 hb.1) (Int.mul_le_mul_of_nonneg_left hb.2 (by omega))
theorem mul_bd2 {a b c d : Int} (ha : 0 ≤ a ∧ a ≤ c) (hb : -d ≤ b ∧ b ≤ d) : -(c * d) ≤ a * b ∧ a * b ≤ c * d := by
  have hd : 0 ≤ d := by omega
  have h1 : a * b ≤ a * d := Int.mul_le_mul_of_nonneg_left hb.2 ha.1
  have h2 : a * (-d) ≤ a * b := Int.mul_le_mul_of_nonneg_left hb.1 ha.1
  have h3 : a * d ≤ c * d := Int.mul_le_mul_of_nonneg_right ha.2 hd
  rw [Int.mul_neg] at h2
  omega
theorem rounds_step {L : List T3} {left : Int} {P : List Nat} {O res : List Int} (h : ∃ f, P.length < f ∧ roundsP L f left P O = res) (hP : ¬ P = []) (hne : ¬ (restP L left (gP L P) P).length = P.length) :
    ∃ f, (restP L left (gP L P) P).length < f ∧ roundsP L f (left - usedP L left (gP L P) P) (restP L left (gP L P) P) (P.foldl (fillO L left (gP L P)) O) = res := by
  obtain ⟨f, hf, h⟩ := h
  have hr := rest_le L left (gP L P) P
  match f, hf with
  | f + 1, hf =>
    refine ⟨f, by omega, ?_⟩
    rw [← h]
    simp only [roundsP, hP, hne, if_false]
theorem rounds_done {L : List T3} {left : Int} {P : List Nat} {O res : List Int} (h : ∃ f, P.length < f ∧ roundsP L f left P O = res) (hP : ¬ P = []) (he : (restP L left (gP L P) P).length = P.length) : doneP L left P O = res := by
  obtain ⟨f, hf, h⟩ := h
  match f, hf with
  | f + 1, hf =>
    rw [← h]
    simp only [roundsP, hP, he, if_true, if_false]
theorem rounds_none {L : List T3} {left : Int} {O res : List Int} (h : ∃ f, ([] : List Nat).length < f ∧ roundsP L f left [] O = res) : O = res := by
  obtain ⟨f, hf, h⟩ := h
  match f, hf with
  | f + 1, hf =>
    rw [← h]
    simp only [roundsP, if_true]
theorem used_take (L : List T3) (left g : Int) (P : List Nat) (k : Nat) (h : k < P.length) : usedP L left g (P.take (k + 1)) = usedP L left g (P.take k) + if fullP L left g P[k] then (tk L P[k]).q - (tk L P[k]).p else 0 := sumN_take _ P k h
theorem spent_take (L : List T3) (left g : Int) (P : List Nat) (k : Nat) (h : k < P.length) : spentP L left g (P.take (k + 1)) = spentP L left g (P.take k) + left * (tk L P[k]).r / g := sumN_take _ P k h
theorem g_take (L : List T3) (P : List Nat) (k : Nat) (h : k < P.length) : gP L (P.take (k + 1)) = gP L (P.take k) + (tk L P[k]).r := sumN_take _ P k h
theorem used_rough {L : List T3} (hm : ∀ t ∈ L, mayT t = true) (left g : Int) (P : List Nat) : 0 ≤ usedP L left g P ∧ usedP L left g P ≤ P.length * 16384 := by
  have := sumN_bd (f := fun i => if fullP L left g i then (tk L i).q - (tk L i).p else 0) (c := 0) (d := 16384) (P := P) (fun i _ => by
    have := tk_bd hm i
    split
    · rename_i hf
      simp [fullP] at hf
      omega
    · omega)
  unfold usedP
  omega
end Go.Proofs.Ythannibclhidcaa
