/- Layer 11: Cells, the program's. -/
import Derived.Test.YtjippgflempdmaaMgGrA
import Derived.Test.YtjippgflempdmaaMgBase
import Derived.Shelf.Abstract
namespace Go.Proofs.Ytjippgflempdmaa
set_option linter.unusedVariables false
set_option linter.unusedSimpArgs false
set_option maxRecDepth 100000
open Go.RowKit
attribute [local go_sem] max_fold min_fold

structure T2 where
  p : Int
  q : Int
deriving DecidableEq
def t2s : List T2 → List Value
  | [] => []
  | c :: l => .int .i64 c.p :: .int .i64 c.q :: t2s l
theorem t2s_len (l : List T2) : (t2s l).length = l.length * 2 := by
  induction l with
  | nil => rfl
  | cons r l ih => simp [t2s, ih]; omega
theorem t2s_append (l m : List T2) : t2s (l ++ m) = t2s l ++ t2s m := by
  induction l with
  | nil => rfl
  | cons r l ih => simp [t2s, ih]
theorem t2s_one (l : List T2) : ∀ v ∈ t2s l, v.oneCell' = true := by
  induction l with
  | nil => intro v h; cases h
  | cons r l ih =>
    intro v h
    simp only [t2s, List.mem_cons] at h
    rcases h with rfl | rfl | h
    · rfl
    · rfl
    · exact ih v h
theorem t2s_at (l : List T2) (k : Nat) (h : k < l.length) : (t2s l)[k * 2]? = some (.int .i64 l[k].p) ∧ (t2s l)[k * 2 + 1]? = some (.int .i64 l[k].q) := by
  induction l generalizing k with
  | nil => simp at h
  | cons r l ih =>
    cases k with
    | zero => simp [t2s]
    | succ k =>
      have := ih k (by simpa using h)
      have e : (k + 1) * 2 = k * 2 + 2 := by omega
      rw [e]
      simpa [t2s] using this
theorem t2s_set (l : List T2) (k : Nat) (u : T2) : ((t2s l).set (k * 2) (.int .i64 u.p)).set (k * 2 + 1) (.int .i64 u.q) = t2s (l.set k u) := by
  induction l generalizing k with
  | nil => rfl
  | cons r l ih =>
    cases k with
    | zero => rfl
    | succ k =>
      have e : (k + 1) * 2 = k * 2 + 2 := by omega
      rw [e]
      simp only [t2s, List.set_cons_succ]
      rw [ih]
theorem t2s_zero (n : Nat) : t2s (List.replicate n ⟨0, 0⟩) = List.replicate (n * 2) (.int .i64 0) := by
  induction n with
  | zero => rfl
  | succ n ih =>
    rw [show (n + 1) * 2 = n * 2 + 1 + 1 by omega]
    simp only [List.replicate_succ, t2s, ih]
theorem At.t2 {B : Nat} {w : World} {A : Option Addr} {l : List T2} (h : At B w A (t2s l)) {k : Nat} (hk : k < l.length) : ∃ g o, A = some ⟨g, o, none⟩ ∧ g < B ∧ w.cell? ⟨g, o + k * 2, none⟩ = some (.int .i64 l[k].p) ∧ w.cell? ⟨g, o + k * 2 + 1, none⟩ = some (.int .i64 l[k].q) := by
  obtain ⟨g, o, hA, hg, hc⟩ := h (by rw [t2s_len]; omega)
  obtain ⟨h0, h1⟩ := t2s_at l k hk
  exact ⟨g, o, hA, hg, hc _ _ h0, by rw [Nat.add_assoc]; exact hc _ _ h1⟩
theorem made_two (v : Value) (n : Nat) : (madeCells #[v, v] n).toList = List.replicate n v := by
  apply List.ext_getElem
  · simp [madeCells]
  · intro i h1 h2
    have h3 : i % 2 < 2 := Nat.mod_lt _ (by omega)
    simp only [madeCells, Array.getElem_toList, Array.getElem_map, Array.getElem_range, List.getElem_replicate]
    have : i % 2 = 0 ∨ i % 2 = 1 := by omega
    rcases this with h | h <;> simp [h]
theorem info_point : (Try.prog.info? 40).map (fun i => (i.zero, i.size, i.bytes)) = some (some (.agg #[.int .i64 0, .int .i64 0]), 2, 16) := by kernel_rfl
section
variable {ops : Array Oper} {rest : List Oper} {o : Oper} {a : Act} {Q : Exit → Act → World → Prop} {w : World}
theorem make_points (hgd : o.guard = none) (l c : Operand) (ho : o.op = Op.makeSlice 24 l c) (base n : Nat) (hl : a.eval l = .int .i64 (n : Int)) (hc : a.eval c = .int .i64 (n : Int)) (hn : n ≤ 1000000) (hbase : base ≤ w.heap.size)
    (h : ∀ w', w'.ownsRow base 40 2 (.slice (some ⟨w.heap.size, 0, none⟩) n n) n (t2s (List.replicate n ⟨0, 0⟩)) → w.grownBy w' none → wpList Try.prog ops Q rest (a.put o.dst (.slice (some ⟨w.heap.size, 0, none⟩) n n)) w') : wpList Try.prog ops Q (o :: rest) a w := by
  obtain ⟨i0, hi, hz0, hz1, hz2⟩ := info_parts info_point
  refine wpList_make_full w hgd l c 24 ho base 40 i0 _ 2 Try.underlying24 hi hz0 hz1 .i64 .i64 _ _ n hl hc rfl rfl (by rw [hz2]; omega) (by unfold maxLen; omega) hbase (fun w' h4 h5 => ?_)
  refine h w' ?_ h5
  rw [t2s_zero, ← made_two]
  exact h4
theorem append_point (hgd : o.guard = none) (s x : Operand) (ho : o.op = .call { callee := .builtin .append, args := #[s, x], argTypes := #[24, 24] }) (base : Nat) (v : Value) (l : List T2) (t : T2) (g : Nat)
    (hs : a.eval s = v) (hx : a.eval x = .slice (some ⟨g, 0, none⟩) 1 1) (hown : w.ownsRow base 40 2 v l.length (t2s l)) (h0 : w.cell? ⟨g, 0, none⟩ = some (.int .i64 t.p)) (h1 : w.cell? ⟨g, 1, none⟩ = some (.int .i64 t.q)) (hn : l.length ≤ 1000000) (hbase : base ≤ w.heap.size)
    (h : ∀ v' w', w'.ownsRow base 40 2 v' (l ++ [t]).length (t2s (l ++ [t])) → w.grownBy w' v.ownBlock → (v'.ownBlock = v.ownBlock ∨ v'.ownBlock = some w.heap.size) → wpList Try.prog ops Q rest (a.put o.dst v') w') : wpList Try.prog ops Q (o :: rest) a w := by
  obtain ⟨i0, hi, hz0, hz1, hz2⟩ := info_parts info_point
  refine wpList_append_own_at w hgd s x 24 ho base 40 i0 _ 2 16 Try.underlying24 hi hz0 hz1 hz2 rfl (by decide) v l.length (t2s l) hs hown ⟨g, 0, none⟩ 1 1 (t2s [t]) hx rfl (fun j u hj => ?_) (t2s_one _) (by unfold maxLen; omega) (by omega) hbase (fun v' w' h4 h5 _ h6 => ?_)
  · match j, hj with
    | 0, hj => simp [t2s] at hj; subst hj; simpa [Addr.add] using h0
    | 1, hj => simp [t2s] at hj; subst hj; simpa [Addr.add] using h1
    | j + 2, hj => simp [t2s] at hj
  · exact h v' w' (by rw [t2s_append, List.length_append]; exact h4) h5 h6
end
theorem make_pts (n : Nat) (hn : n ≤ 1000000) (w : World) : (Instr.makeSlice 24 (.int .i64 (n : Int)) (.int .i64 (n : Int))).run Try.prog w = .ok (.slice (some ⟨w.heap.size, 0, none⟩) n n) (w.alloc (.cells (madeCells #[.int .i64 0, .int .i64 0] (n * 2)) 40)) := by
  obtain ⟨i0, hi, hz0, hz1, hz2⟩ := info_parts info_point
  have hr := run_make (P := Try.prog) w 24 40 i0 _ Try.underlying24 hi hz0 .i64 .i64 n n (by omega) (Int.le_refl _) (by rw [hz2]; omega) (by omega)
  simp only [Int.toNat_natCast, hz1] at hr
  exact hr
theorem own_pts {w : World} {B g n : Nat} (hB : B ≤ g) (hn : n ≤ 1000000) (h : w.heap[g]? = some (.cells (madeCells #[.int .i64 0, .int .i64 0] (n * 2)) 40 (0, 0))) : w.ownsRow B 40 2 (.slice (some ⟨g, 0, none⟩) n n) n (t2s (List.replicate n ⟨0, 0⟩)) := by
  have e : (madeCells #[Value.int .i64 0, Value.int .i64 0] (n * 2)).toList = t2s (List.replicate n ⟨0, 0⟩) := by
    rw [t2s_zero, made_two]
  have e2 : (madeCells #[Value.int .i64 0, Value.int .i64 0] (n * 2)).size = n * 2 := by
    rw [← Array.length_toList, e, t2s_len]
    simp
  refine ⟨by rw [t2s_len]; simp, .inr ⟨g, n, _, rfl, hB, h, Nat.le_refl _, by unfold maxLen; omega, by omega, ?_⟩⟩
  rw [e]
  rw [← e2, ← Array.length_toList, e, List.take_length]
/-- A row of pairs, one written over. -/
theorem own_pair {w : World} {base g n c : Nat} {l : List T2} (h : w.ownsRow base 40 2 (.slice (some ⟨g, 0, none⟩) n c) n (t2s l)) (k : Nat) (u : T2) :
    ((w.setCell ⟨g, k * 2, none⟩ (.int .i64 u.p)).setCell ⟨g, k * 2 + 1, none⟩ (.int .i64 u.q)).ownsRow base 40 2 (.slice (some ⟨g, 0, none⟩) n c) n (t2s (l.set k u)) := by
  rw [← t2s_set]
  exact own_store (own_store h _ _) _ _

/-! What is answered. -/
def cellE (S : List Int) (col : Int) : Int := askE [numE 64 S, num1 64 col]
def ptsL (n : Int) (S : List Int) (i : Nat) : List T2 := (List.range i).map fun k => ⟨colP n S k, (rowP n S k : Int)⟩
def cellsL (S : List Int) (col : Int) : List T2 := if cellE S col = 0 then ptsL (max col 1) S S.length else []
theorem ask_ok : ∀ {l : List Int}, askE l = 0 → ∀ e ∈ l, e = 0 := by
  intro l
  induction l with
  | nil => intro _ e he; cases he
  | cons x l ih =>
    intro h
    unfold askE at h
    split at h
    · rename_i hx
      intro e he
      rcases List.mem_cons.1 he with rfl | he
      · exact hx
      · exact ih h e he
    · rename_i hx
      exact absurd h hx
theorem num1_ok {most n : Int} (h : num1 most n = 0) : 0 ≤ n ∧ n ≤ most := by
  unfold num1 at h
  split at h
  · rename_i h1
    simpa [inN] using h1
  · omega
theorem cell_ok {S : List Int} {col : Int} (h : cellE S col = 0) : S.length ≤ 1024 ∧ 0 ≤ col ∧ col ≤ 64 ∧ numE 64 S = 0 ∧ num1 64 col = 0 := by
  have h1 := ask_ok h (numE 64 S) (by simp)
  have h2 := ask_ok h (num1 64 col) (by simp)
  exact ⟨(numE_ok h1).1, (num1_ok h2).1, (num1_ok h2).2, h1, h2⟩
def PtsE (l : List T2) (err : Int) (W : World) (e : Ending) (w' : World) : Prop := ∃ A c, e = .returned (.tuple #[.slice A l.length c, .int .i64 err]) ∧ w'.ownsRow W.heap.size 40 2 (.slice A l.length c) l.length (t2s l) ∧ Below W.heap.size W w'
theorem PtsE.none {err : Int} {W w' : World} (hb : Below W.heap.size W w') : PtsE [] err W (.returned (.tuple #[.slice none 0 0, .int .i64 err])) w' := ⟨Option.none, 0, rfl, World.ownsRow_nil _ _ _ _, hb⟩

theorem At.block {w : World} {g : Nat} {xs : List Value} {t : TypeId} (h : w.heap[g]? = some (.cells xs.toArray t (0, 0))) : At w.heap.size w (some ⟨g, 0, none⟩) xs := by
  intro _
  refine ⟨g, 0, rfl, blk_lt2 h, fun j v hj => ?_⟩
  rw [Nat.zero_add, blk_cell h j]
  simpa using hj
theorem numbers_new (most n : Int) (t : TypeId) (w : World) : Calls Try.prog 32 #[.int .i64 most, .slice (some ⟨w.heap.size, 0, none⟩) 1 1] (w.alloc (.cells #[.int .i64 n] t)) fun e w' => e = .returned (.int .i64 (num1 most n)) ∧ w.alloc (.cells #[.int .i64 n] t) = w' := by
  have h : At (w.alloc (.cells #[.int .i64 n] t)).heap.size (w.alloc (.cells #[.int .i64 n] t)) (some ⟨w.heap.size, 0, none⟩) (ints [n]) := At.block (t := t) (alloc_at _ _)
  have := numbers_any _ _ 1 most [n] _ h (by simp)
  rw [numE_one] at this
  exact this
theorem asked_at (g : Nat) (l : List Int) (n : Nat) (w : World) {cs : Array Value} {t : TypeId} (h : w.heap[g]? = some (.cells cs t (0, 0))) (hcs : cs = (ints l).toArray) (hn : l.length = n) (hl : n ≤ 1000) : Calls Try.prog 31 #[.slice (some ⟨g, 0, none⟩) n n] w fun e w' => e = .returned (.int .i64 (askE l)) ∧ w = w' := by
  subst hn hcs
  exact asked_any _ _ _ l _ (At.block h) hl
end Go.Proofs.Ytjippgflempdmaa

/- Layer 11: Cells, the program's: the walk. -/
namespace Go.Proofs.Ytjippgflempdmaa
set_option linter.unusedVariables false
set_option linter.unusedSimpArgs false
set_option maxRecDepth 100000
open Go.RowKit
attribute [local go_sem] max_fold min_fold

theorem RowsIn.on {n : Int} {S : List Int} {base top c : Nat} {A : Option Addr} {Z : List Rw} {wr w' : World} (h : RowsIn n S base top A c Z wr) (hb : Below wr.heap.size wr w') : RowsIn n S base top A c Z w' := ⟨h.mem.on hb, h.ot, h.it⟩
theorem At.frozen_own {w : World} {base : Nat} {e : TypeId} {size n c g : Nat} {xs : List Value} (h : w.ownsRow base e size (.slice (some ⟨g, 0, none⟩) n c) n xs) (k : Nat) : w.frozen? ⟨g, k, none⟩ = false := h.frozenAt k

theorem At.next {B : Nat} {w : World} {A : Option Addr} {xs : List Value} (h : At B w A xs) (hB : B ≤ w.heap.size) (o : Obj) : At B (w.alloc o) A xs := h.below ((Below.refl B w).alloc hB o)
theorem alloc_two (w : World) (o o' : Obj) : ((w.alloc o).alloc o').heap[w.heap.size + 1]? = some o' := by
  have := alloc_at (w.alloc o) o'
  rwa [World.size_alloc] at this
/-- While the things are put down. -/
structure CSt (w : World) (n : Int) (S : List Int) (base top : Nat) (A : Option Addr) (c : Nat) (Z : List Rw) (g q N : Nat) (X : List T2) (wr : World) : Prop where
  below : Below w.heap.size w wr
  box : wr.heap[q]? = some (.cells #[.slice (some ⟨g, 0, none⟩) N N] 24 (0, 0))
  own : wr.ownsRow w.heap.size 40 2 (.slice (some ⟨g, 0, none⟩) N N) N (t2s X)
  rows : RowsIn n S base top A c Z wr
  gb : w.heap.size ≤ g ∧ g < base ∧ g ≠ q
theorem CSt.on {w wr w' : World} {n : Int} {S : List Int} {base top c g q N : Nat} {A : Option Addr} {Z : List Rw} {X : List T2} (h : CSt w n S base top A c Z g q N X wr) (hb : Below wr.heap.size wr w') : CSt w n S base top A c Z g q N X w' :=
  ⟨h.below.trans (hb.mono h.below.size), (hb.block _ (blk_lt2 h.box)).trans h.box, own_below' h.own hb, h.rows.on hb, h.gb⟩
theorem CSt.put {w wr : World} {n : Int} {S : List Int} {base top c g q N : Nat} {A : Option Addr} {Z : List Rw} {X : List T2} (h : CSt w n S base top A c Z g q N X wr) (k : Nat) (u : T2) : CSt w n S base top A c Z g q N (X.set k u) ((wr.setCell ⟨g, k * 2, none⟩ (.int .i64 u.p)).setCell ⟨g, k * 2 + 1, none⟩ (.int .i64 u.q)) := by
  obtain ⟨h1, h2, h3⟩ := h.gb
  refine ⟨(h.below.setCell (p := ⟨g, k * 2, none⟩) h1 _).setCell (p := ⟨g, k * 2 + 1, none⟩) h1 _, ?_, own_pair h.own k u, h.rows.same fun k hk _ => ?_, h.gb⟩
  · rw [heap_setCell_other _ _ _ _ (Ne.symm h3), heap_setCell_other _ _ _ _ (Ne.symm h3)]
    exact h.box
  · rw [heap_setCell_other _ _ _ _ (by simp only; omega), heap_setCell_other _ _ _ _ (by simp only; omega)]
def ptsX (n : Int) (S : List Int) (N i : Nat) : List T2 := ptsL n S i ++ List.replicate (N - i) ⟨0, 0⟩
theorem ptsL_len (n : Int) (S : List Int) (i : Nat) : (ptsL n S i).length = i := by simp [ptsL]
theorem ptsX_len {n : Int} {S : List Int} {N i : Nat} (h : i ≤ N) : (ptsX n S N i).length = N := by simp [ptsX, ptsL_len]; omega
theorem ptsX_zero (n : Int) (S : List Int) (N : Nat) : ptsX n S N 0 = List.replicate N ⟨0, 0⟩ := by simp [ptsX, ptsL]
theorem ptsX_end (n : Int) (S : List Int) (N : Nat) : ptsX n S N N = ptsL n S N := by simp [ptsX]
theorem ptsL_succ (n : Int) (S : List Int) (i : Nat) : ptsL n S (i + 1) = ptsL n S i ++ [⟨colP n S i, (rowP n S i : Int)⟩] := by simp [ptsL, List.range_succ]
theorem ptsX_set {n : Int} {S : List Int} {N i : Nat} (h : i < N) : (ptsX n S N i).set i ⟨colP n S i, (rowP n S i : Int)⟩ = ptsX n S N (i + 1) := by
  unfold ptsX
  rw [List.set_append_right _ _ (by rw [ptsL_len]; exact Nat.le_refl _), ptsL_len, Nat.sub_self, ptsL_succ]
  rw [show N - i = (N - (i + 1)) + 1 by omega, List.replicate_succ, List.set_cons_zero]
  simp

set_option maxRecDepth 100000 in
set_option maxHeartbeats 2000000 in
theorem put_any {w wr : World} {n : Int} {S : List Int} {base top c g q N : Nat} {A : Option Addr} {Z : List Rw} {X : List T2} (h : CSt w n S base top A c Z g q N X wr) (hX : X.length = N) (hN : N ≤ 1024) {i : Nat} (hi : i < N) (x wd y : Int) :
    Calls Try.prog 35 #[.agg #[.int .i64 x, .int .i64 wd, .int .i64 i], .int .i64 y, .pointer (some ⟨q, 0, none⟩)] wr fun e w' => e = .returned (.tuple #[]) ∧ CSt w n S base top A c Z g q N (X.set i ⟨x, y⟩) w' := by
  have hb := blk_cell h.box 0
  simp at hb
  have hi0 : (i : Int) < (N : Int) := by omega
  have hc0 := h.own.cellAt (i * 2) (by omega)
  have hc1 := h.own.cellAt (i * 2 + 1) (by omega)
  obtain ⟨e0, e1⟩ := t2s_at X i (by omega)
  rw [e0] at hc0
  rw [e1] at hc1
  have hf0 := At.frozen_own h.own (i * 2)
  have hf1 := At.frozen_own h.own (i * 2 + 1)
  have lg := World.block_lt_of_cell? _ _ hc0
  have lq := World.block_lt_of_cell? _ _ hb
  have H := Go.Lib.hid h
  clear h e0 e1
  go_enter Try.func35, Try.ntmps35
  go_wp2
  go_end0
  exact ⟨rfl, (H.out.put i ⟨x, y⟩).on ((Below.refl _ _).alloc (Nat.le_refl _) _)⟩

theorem enters_cells : Enters Try.prog 35 := enters_of Try.func35 (by kernel_rfl) rfl

set_option maxRecDepth 100000 in
set_option maxHeartbeats 400000 in
theorem Cells_any (B : Nat) (A : Option Addr) (c : Nat) (S : List Int) (col : Int) (w : World) (hA : At B w A (ints S)) (hB : B ≤ w.heap.size) (hl : S.length ≤ 9000000000000000000) :
    Calls Try.prog 9 #[.slice A S.length c, .int .i64 col] w (PtsE (cellsL S col) (cellE S col) w) := by
  obtain ⟨N, hN⟩ : ∃ N, S.length = N := ⟨_, rfl⟩
  have HN : Hid (∀ e, numE 64 S = e → ∀ w', At B w' A (ints S) → Calls Try.prog 32 #[.int .i64 64, .slice A N c] w' fun e' w'' => e' = .returned (.int .i64 e) ∧ w' = w'') := Go.Lib.hid fun e he w' h => he ▸ hN ▸ numbers_any B A c 64 S w' h hl
  by_cases h0 : cellE S col = 0
  · obtain ⟨hlen, hc0, hc1, e1, e2⟩ := cell_ok h0
    rw [show cellsL S col = ptsL (max col 1) S S.length by unfold cellsL; rw [if_pos h0], h0]
    obtain ⟨n, hn⟩ : ∃ n, max col 1 = n := ⟨_, rfl⟩
    have hn1 : 1 ≤ n := by omega
    have hn64 : n ≤ 64 := by omega
    have HA : Hid (∀ w', At B w' A (ints S) → B ≤ w'.heap.size → Calls Try.prog 34 #[.slice A N c, .int .i64 col] w' (RowsPost n S w')) := Go.Lib.hid fun w' h1 h2 => hN ▸ rows_any B A c S col n w' h1 h2 hlen hn hn64
    rw [hn, hN]
    have HN2 := Go.Lib.hid (HN.out 0 e1)
    have H0 := Go.Lib.hid h0
    have HNN := Go.Lib.hid hN
    have HE2 := Go.Lib.hid e2
    have hN1 : N ≤ 1024 := by omega
    clear h0 hn e1 hN e2 HN
    go_enter Try.func9, Try.ntmps9
    go_wp2_with fail
    refine (HN2.out _ hA).mono ?_
    rintro e w' ⟨rfl, rfl⟩
    go_wp2_with fail
    with_reducible refine (numbers_new 64 col _ _).mono ?_
    rintro e w' ⟨rfl, rfl⟩
    rw [HE2.out]
    go_wp2_with fail
    refine (asked_at (w.heap.size + 1) [0, 0] 2 _ (alloc_two _ _ _) rfl rfl (by omega)).mono ?_
    rintro e w1 ⟨rfl, hw1⟩
    have hb1 : Below w.heap.size w w1 := hw1 ▸ ((Below.refl _ _).alloc (Nat.le_refl _) _).alloc (by simp) _
    clear hw1
    rw [show askE [0, 0] = 0 from rfl]
    have hA1 := hA.below (hb1.mono hB)
    have hs1 := hb1.size
    have hmk := make_pts N (by omega)
    clear hA
    go_wp2_with fail
    refine (HA.out _ ((hA1.next (by omega) _).next (by simp; omega) _) (by simp; omega)).mono ?_
    rintro e w3 ⟨A3, c3, Z, rfl, hrec, hmem, hb3⟩
    have hst : CSt w n S (w1.heap.size + 2) w3.heap.size A3 c3 Z w1.heap.size (w1.heap.size + 1) N (ptsX n S N 0) w3 := by
      have e0 := hb3.block w1.heap.size (by simp; omega)
      have e1 := hb3.block (w1.heap.size + 1) (by simp)
      rw [alloc_two] at e1
      rw [Below.heap_alloc _ _ _ (by simp), alloc_at] at e0
      refine ⟨hb1.trans (((((Below.refl w.heap.size w1).alloc hs1 _).alloc (by simp; omega) _)).trans (hb3.mono (by simp; omega))), e1, ?_, ?_, by omega⟩
      · rw [ptsX_zero]
        exact own_pts hs1 (by omega) e0
      · have := RowsIn.of hmem
        simpa using this
    rw [HNN.out] at hrec
    have HREC := Go.Lib.hid hrec
    clear hb3 hmem hrec hb1 hA1
    obtain ⟨g, hg⟩ : ∃ g, w1.heap.size = g := ⟨_, rfl⟩
    rw [hg] at hst ⊢
    go_wp2_with fail
    refine (each_any 35 #[.pointer (some ⟨g + 1, 0, none⟩)] (fun a w => enters_cells a w) n hn1 S N hN1 A3 c3 Z HREC.out (fun i wr => CSt w n S (g + 2) w3.heap.size A3 c3 Z g (g + 1) N (ptsX n S N i) wr) (fun i wr h => h.rows.at) (fun i wr w' h hb => h.on hb) (fun i wr hi h => ?_) _ hst).mono ?_
    · have := put_any h (ptsX_len (by omega)) hN1 hi (colP n S i) (wideP n S i) (rowP n S i)
      rw [ptsX_set hi] at this
      exact this
    rintro e w4 ⟨rfl, h4⟩
    rw [ptsX_end] at h4
    have hbx := blk_cell h4.box 0
    simp at hbx
    have hown := h4.own
    have hbel := h4.below
    clear h4 hst HREC
    go_wp2
    go_ret2
    exact ⟨some ⟨g, 0, none⟩, N, by rw [ptsL_len]; rfl, by rw [ptsL_len]; exact hown, hbel⟩
  · have hne : (cellE S col != 0) = true := by simpa using h0
    rw [show cellsL S col = [] by unfold cellsL; rw [if_neg h0]]
    have HN2 := Go.Lib.hid (HN.out _ rfl)
    obtain ⟨E, hE⟩ : ∃ E, cellE S col = E := ⟨_, rfl⟩
    have hE2 : askE [numE 64 S, num1 64 col] = E := hE
    rw [hE] at hne ⊢
    generalize numE 64 S = e1 at *
    obtain ⟨e2, he2⟩ : ∃ e2, num1 64 col = e2 := ⟨_, rfl⟩
    rw [he2] at hE2
    have HE2 := Go.Lib.hid he2
    have HEE := Go.Lib.hid hE2
    clear h0 hE HN he2 hE2
    go_enter Try.func9, Try.ntmps9
    go_wp2_with fail
    refine (HN2.out _ hA).mono ?_
    rintro e w' ⟨rfl, rfl⟩
    go_wp2_with fail
    with_reducible refine (numbers_new 64 col _ _).mono ?_
    rintro e w' ⟨rfl, rfl⟩
    rw [HE2.out]
    go_wp2_with fail
    refine (asked_at (w.heap.size + 1) [e1, e2] 2 _ (alloc_two _ _ _) rfl rfl (by omega)).mono ?_
    rintro e w1 ⟨rfl, hw1⟩
    have hb1 : Below w.heap.size w w1 := hw1 ▸ ((Below.refl _ _).alloc (Nat.le_refl _) _).alloc (by simp) _
    clear hw1
    rw [HEE.out]
    go_wp2
    go_ret2
    exact PtsE.none hb1
end Go.Proofs.Ytjippgflempdmaa

/- Layer 11: cells and Cells, the document's. -/
namespace Go.Proofs.Ytjippgflempdmaa
set_option linter.unusedVariables false
set_option linter.unusedSimpArgs false
set_option maxRecDepth 100000
open Go.RowKit
attribute [local go_sem] max_fold min_fold

section
variable {ops : Array Oper} {rest : List Oper} {o : Oper} {a : Act} {Q : Exit → Act → World → Prop} {w : World}
theorem append_num (hgd : o.guard = none) (s x : Operand) (ho : o.op = .call { callee := .builtin .append, args := #[s, x], argTypes := #[23, 23] }) (base : Nat) (v : Value) (l : List Int) (n : Int) (g : Nat)
    (hs : a.eval s = v) (hx : a.eval x = .slice (some ⟨g, 0, none⟩) 1 1) (hown : w.ownsRow base 3 1 v l.length (ints l)) (h0 : w.cell? ⟨g, 0, none⟩ = some (.int .i64 n)) (hn : l.length ≤ 1000000) (hbase : base ≤ w.heap.size)
    (h : ∀ v' w', w'.ownsRow base 3 1 v' (l ++ [n]).length (ints (l ++ [n])) → w.grownBy w' v.ownBlock → (v'.ownBlock = v.ownBlock ∨ v'.ownBlock = some w.heap.size) → wpList Try.prog ops Q rest (a.put o.dst v') w') : wpList Try.prog ops Q (o :: rest) a w := by
  obtain ⟨i0, hi, hz0, hz1, hz2⟩ := info_parts info_int
  refine wpList_append_own_at w hgd s x 23 ho base 3 i0 _ 1 8 Try.underlying23 hi hz0 hz1 hz2 rfl (by decide) v l.length (ints l) hs hown ⟨g, 0, none⟩ 1 1 (ints [n]) hx rfl (fun j u hj => ?_) (ints_one _) (by unfold maxLen; omega) (by omega) hbase (fun v' w' h4 h5 _ h6 => ?_)
  · match j, hj with
    | 0, hj => simp [ints] at hj; subst hj; simpa [Addr.add] using h0
    | j + 1, hj => simp [ints] at hj
  · exact h v' w' (by rw [ints_append, List.length_append]; exact h4) h5 h6
end
def wdsL (n : Int) (S : List Int) (i : Nat) : List Int := (List.range i).map fun k => wideP n S k
theorem wdsL_len (n : Int) (S : List Int) (i : Nat) : (wdsL n S i).length = i := by simp [wdsL]
theorem wdsL_succ (n : Int) (S : List Int) (i : Nat) : wdsL n S (i + 1) = wdsL n S i ++ [wideP n S i] := by simp [wdsL, List.range_succ]
/-- Both lists while they are made. -/
structure RcSt (w : World) (n : Int) (S : List Int) (i : Nat) (v1 v2 : Value) (wr : World) : Prop where
  o1 : wr.ownsRow w.heap.size 40 2 v1 i (t2s (ptsL n S i))
  o2 : wr.ownsRow w.heap.size 3 1 v2 i (ints (wdsL n S i))
  ap : ∀ k, v1.ownBlock = some k → v2.ownBlock ≠ some k
  below : Below w.heap.size w wr
structure RcHalf (w : World) (n : Int) (S : List Int) (i : Nat) (v1 v2 : Value) (wr : World) : Prop where
  o1 : wr.ownsRow w.heap.size 40 2 v1 (i + 1) (t2s (ptsL n S (i + 1)))
  o2 : wr.ownsRow w.heap.size 3 1 v2 i (ints (wdsL n S i))
  ap : ∀ k, v1.ownBlock = some k → v2.ownBlock ≠ some k
  below : Below w.heap.size w wr
theorem RcSt.push {w wr w4 : World} {n : Int} {S : List Int} {i : Nat} {v1 v2 v3 : Value} (H : RcSt w n S i v1 v2 wr) (o : Obj) {X Y : Int} (hX : colP n S i = X) (hY : (rowP n S i : Int) = Y) (hg : (wr.alloc o).grownBy w4 v1.ownBlock)
    (h : w4.ownsRow w.heap.size 40 2 v3 ((ptsL n S i).length + 1) (t2s (ptsL n S i ++ [(⟨X, Y⟩ : T2)]))) (hl : v3.ownBlock = v1.ownBlock ∨ v3.ownBlock = some (wr.heap.size + 1)) : RcHalf w n S i v3 v2 w4 := by
  have e : ptsL n S i ++ [(⟨X, Y⟩ : T2)] = ptsL n S (i + 1) := by rw [ptsL_succ, hX, hY]
  rw [e, ptsL_len] at h
  refine ⟨h, own_apart (H.o2.alloc o) hg fun k hk e => H.ap k e hk, fun k hk e => ?_, ?_⟩
  · rcases hl with e2 | e2
    · exact H.ap k (e2 ▸ hk) e
    · rw [e2] at hk
      have := (H.o2.lt k e).2
      have := Option.some.inj hk
      omega
  · exact (H.below.alloc H.below.size o).grown hg (by have := H.below.size; simp; omega) (own_ge H.o1)
theorem RcHalf.push {w wr w4 : World} {n : Int} {S : List Int} {i : Nat} {v1 v2 v3 : Value} (H : RcHalf w n S i v1 v2 wr) (o : Obj) {X : Int} (hX : wideP n S i = X) (hg : (wr.alloc o).grownBy w4 v2.ownBlock)
    (h : w4.ownsRow w.heap.size 3 1 v3 ((wdsL n S i).length + 1) (ints (wdsL n S i ++ [X]))) (hl : v3.ownBlock = v2.ownBlock ∨ v3.ownBlock = some (wr.heap.size + 1)) : RcSt w n S (i + 1) v1 v3 w4 := by
  have e : wdsL n S i ++ [X] = wdsL n S (i + 1) := by rw [wdsL_succ, hX]
  rw [e, wdsL_len] at h
  refine ⟨own_apart (H.o1.alloc o) hg fun k hk e => H.ap k hk e, h, fun k hk e => ?_, ?_⟩
  · rcases hl with e2 | e2
    · exact H.ap k hk (e2 ▸ e)
    · rw [e2] at e
      have := (H.o1.lt k hk).2
      have := Option.some.inj e
      omega
  · exact (H.below.alloc H.below.size o).grown hg (by have := H.below.size; simp; omega) (own_ge H.o2)
def PwPost (n : Int) (S : List Int) (N : Nat) (w : World) (e : Ending) (w' : World) : Prop := ∃ A1 c1 A2 c2, e = .returned (.tuple #[.slice A1 N c1, .slice A2 N c2]) ∧ RcSt w n S N (.slice A1 N c1) (.slice A2 N c2) w'

set_option maxRecDepth 100000 in
set_option maxHeartbeats 4000000 in
theorem rcells_any (B : Nat) (A : Option Addr) (c : Nat) (S : List Int) (col n : Int) (w : World) (hA : At B w A (ints S)) (hB : B ≤ w.heap.size) (hl : S.length ≤ 1024) (hn : max col 1 = n) (hn2 : n ≤ 64) :
    Calls Try.prog 48 #[.slice A S.length c, .int .i64 col] w (PwPost n S S.length w) := by
  have hn1 : 1 ≤ n := by omega
  obtain ⟨N, hN⟩ : ∃ N, S.length = N := ⟨_, rfl⟩
  have HN := Go.Lib.hid hN
  rw [hN] at hl ⊢
  clear hN
  go_enter Try.func48, Try.ntmps48
  go_wp2
  clear hn
  go_loopw [7, 8, 9, 10, 11] (fun a_ d_ x_ y_ i_ wr => ∃ i : Nat, i ≤ N ∧ i_ = .int .i64 i ∧ x_ = .int .i64 (nxtP n S i).1 ∧ y_ = .int .i64 ((nxtP n S i).2 : Int) ∧ Hid (RcSt w n S i a_ d_ wr)) (fun _ _ _ _ i_ _ => N - (intOf i_).toNat)
  case atStart => exact ⟨0, by omega, rfl, rfl, rfl, Go.Lib.hid ⟨World.ownsRow_nil _ _ _ _, World.ownsRow_nil _ _ _ _, fun k h => by simp [Value.ownBlock] at h, Below.refl _ _⟩⟩
  case round =>
    obtain ⟨i, hi, rfl, rfl, rfl, H⟩ := hrel
    by_cases hlt : i < N
    · have hli : (i : Int) < (N : Int) := by omega
      have hkS : i < S.length := by have := HN.out; omega
      obtain ⟨g, o, rfl, hg, x1⟩ := (hA.below (H.out.below.mono hB)).int hkS
      have hw : wideP n S i = min (max S[i] 1) n := by unfold wideP; rw [show S.getD i 0 = S[i] by simp [List.getD, hkS]]
      have hns := nxt_succ n S i
      have hcp : colP n S i = if brk n S i then 0 else (nxtP n S i).1 := rfl
      have hrp : rowP n S i = if brk n S i then (nxtP n S i).2 + 1 else (nxtP n S i).2 := rfl
      have hbk : brk n S i ↔ n < (nxtP n S i).1 + wideP n S i := Iff.rfl
      have hwb := wide_bd hn1 S i
      have hxb := nxt_bd hn1 S i
      have hyb : (nxtP n S i).2 ≤ 2000 := by
        have h1 := row_le hn1 S i
        rw [hrp] at h1
        split at h1 <;> omega
      have HNS := Go.Lib.hid hns
      have HW := Go.Lib.hid hw
      rw [hw] at hbk hwb
      obtain ⟨a_w, hgx⟩ : ∃ q, (nxtP n S i).1 = q := ⟨_, rfl⟩
      obtain ⟨yv, hgy⟩ : ∃ q, (nxtP n S i).2 = q := ⟨_, rfl⟩
      rw [hgx] at hbk hxb hcp ⊢
      rw [hgy] at hyb hrp ⊢
      have HCP := Go.Lib.hid hcp
      have HRP := Go.Lib.hid hrp
      clear hns hw hcp hrp hgx hgy
      generalize S[i] = s at *
      obtain ⟨k, hk⟩ : ∃ k, min (max s 1) n = k := ⟨_, rfl⟩
      have HK := Go.Lib.hid hk
      rw [hk] at hbk hwb
      go_upto_region 10 with fail
      by_cases hot : n < a_w + k
      · have hb := hbk.2 hot
        have hcx : colP n S i = (0 : Int) := by rw [HCP.out, if_pos (hbk.2 hot)]
        have hrx : (rowP n S i : Int) = ((yv : Int) + 1) := by rw [HRP.out, if_pos (hbk.2 hot)]; push_cast; rfl
        have HH := Go.Lib.hid hcx
        have HHR := Go.Lib.hid hrx
        have hsz := H.out.below.size
        clear hbk hb hcx hrx
        go_wp2_with (first | (at_builtin; refine append_point rfl (.tmp 35) (.tmp 39) rfl w.heap.size _ (ptsL n S i) ⟨(0 : Int), ((yv : Int) + 1)⟩ wr.heap.size rfl rfl (own_len' (H.out.o1.alloc _) (ptsL_len n S i).symm) (by simp [go_sem]) (by simp [go_sem]) ?_ ?_ ?_))
        · rw [ptsL_len]; omega
        · (try simp); omega
        intro v3 w4 hown4 hg4 hloc4
        have HF := Go.Lib.hid (H.out.push _ HH.out HHR.out hg4 hown4 hloc4)
        clear hown4 hg4 hloc4 H hsz
        have hsz := HF.out.below.size
        go_wp2_with (first | (at_builtin; refine append_num rfl (.tmp 41) (.tmp 43) rfl w.heap.size _ (wdsL n S i) k w4.heap.size rfl rfl (own_len' (HF.out.o2.alloc _) (wdsL_len n S i).symm) (by simp [go_sem]) ?_ ?_ ?_))
        · rw [wdsL_len]; omega
        · (try simp); omega
        intro v5 w6 hown6 hg6 hloc6
        have HL := Go.Lib.hid (HF.out.push _ (by rw [HW.out, HK.out]) hg6 hown6 hloc6)
        clear hown6 hg6 hloc6 HF hsz
        go_wp2
        go_roundw
        case rel => exact ⟨i + 1, by omega, by go_num, (by rw [HNS.out, HH.out, HW.out, HK.out]; simp), (by rw [HNS.out, HHR.out]), HL⟩
        case measure => simp [intOf]; omega
      · have hb := fun h => hot (hbk.1 h)
        have hcx : colP n S i = a_w := by rw [HCP.out, if_neg (fun h => hot (hbk.1 h))]
        have hrx : (rowP n S i : Int) = (yv : Int) := by rw [HRP.out, if_neg (fun h => hot (hbk.1 h))]
        have HH := Go.Lib.hid hcx
        have HHR := Go.Lib.hid hrx
        have hsz := H.out.below.size
        clear hbk hb hcx hrx
        go_wp2_with (first | (at_builtin; refine append_point rfl (.tmp 35) (.tmp 39) rfl w.heap.size _ (ptsL n S i) ⟨a_w, (yv : Int)⟩ wr.heap.size rfl rfl (own_len' (H.out.o1.alloc _) (ptsL_len n S i).symm) (by simp [go_sem]) (by simp [go_sem]) ?_ ?_ ?_))
        · rw [ptsL_len]; omega
        · (try simp); omega
        intro v3 w4 hown4 hg4 hloc4
        have HF := Go.Lib.hid (H.out.push _ HH.out HHR.out hg4 hown4 hloc4)
        clear hown4 hg4 hloc4 H hsz
        have hsz := HF.out.below.size
        go_wp2_with (first | (at_builtin; refine append_num rfl (.tmp 41) (.tmp 43) rfl w.heap.size _ (wdsL n S i) k w4.heap.size rfl rfl (own_len' (HF.out.o2.alloc _) (wdsL_len n S i).symm) (by simp [go_sem]) ?_ ?_ ?_))
        · rw [wdsL_len]; omega
        · (try simp); omega
        intro v5 w6 hown6 hg6 hloc6
        have HL := Go.Lib.hid (HF.out.push _ (by rw [HW.out, HK.out]) hg6 hown6 hloc6)
        clear hown6 hg6 hloc6 HF hsz
        go_wp2
        go_roundw
        case rel => exact ⟨i + 1, by omega, by go_num, (by rw [HNS.out, HH.out, HW.out, HK.out]), (by rw [HNS.out, HHR.out]), HL⟩
        case measure => simp [intOf]; omega
    · have hlt' : ¬ ((i : Int) < (N : Int)) := by omega
      have hie : i = N := by omega
      subst hie
      obtain ⟨A1, c1, rfl⟩ := own_shape H.out.o1
      obtain ⟨A2, c2, rfl⟩ := own_shape H.out.o2
      generalize (nxtP n S i).1 = x_ at *
      generalize (nxtP n S i).2 = y_ at *
      go_wp2
      go_ret2
      exact ⟨A1, c1, A2, c2, rfl, H.out⟩

theorem rfirst_at (g : Nat) (l : List Int) (n : Nat) (w : World) {cs : Array Value} {t : TypeId} (h : w.heap[g]? = some (.cells cs t (0, 0))) (hcs : cs = (ints l).toArray) (hn : l.length = n) (hl : n ≤ 1000) : Calls Try.prog 45 #[.slice (some ⟨g, 0, none⟩) n n] w fun e w' => e = .returned (.int .i64 (askE l)) ∧ w = w' := by
  subst hn hcs
  exact first_any _ _ _ l _ (At.block h) hl

set_option maxRecDepth 100000 in
set_option maxHeartbeats 1000000 in
theorem rCells_any (B : Nat) (A : Option Addr) (c : Nat) (S : List Int) (col : Int) (w : World) (hA : At B w A (ints S)) (hB : B ≤ w.heap.size) (hl : S.length ≤ 9000000000000000000) :
    Calls Try.prog 16 #[.slice A S.length c, .int .i64 col] w (PtsE (cellsL S col) (cellE S col) w) := by
  obtain ⟨N, hN⟩ : ∃ N, S.length = N := ⟨_, rfl⟩
  have HN : Hid (∀ e, numE 64 S = e → ∀ w', At B w' A (ints S) → Calls Try.prog 46 #[.slice A N c, .int .i64 64] w' fun e' w'' => e' = .returned (.int .i64 e) ∧ w' = w'') := Go.Lib.hid fun e he w' h => he ▸ hN ▸ reach_any B A c 64 S w' h hl
  obtain ⟨e2, he2⟩ : ∃ e, num1 64 col = e := ⟨_, rfl⟩
  have HE2 := Go.Lib.hid he2
  by_cases h0 : cellE S col = 0
  · obtain ⟨hlen, hc0, hc1, e1, e2'⟩ := cell_ok h0
    rw [show cellsL S col = ptsL (max col 1) S S.length by unfold cellsL; rw [if_pos h0], h0]
    obtain ⟨n, hn⟩ : ∃ n, max col 1 = n := ⟨_, rfl⟩
    have hn64 : n ≤ 64 := by omega
    have HA : Hid (∀ w', At B w' A (ints S) → B ≤ w'.heap.size → Calls Try.prog 48 #[.slice A N c, .int .i64 col] w' (PwPost n S N w')) := Go.Lib.hid fun w' h1 h2 => hN ▸ rcells_any B A c S col n w' h1 h2 hlen hn hn64
    rw [hn, hN]
    have HN2 := Go.Lib.hid (HN.out 0 e1)
    rw [he2] at e2'
    subst e2'
    clear h0 hn e1 hN HN he2 hlen hc0 hc1
    go_enter Try.func16, Try.ntmps16
    go_wp2_with fail
    refine (HN2.out _ hA).mono ?_
    rintro e w' ⟨rfl, rfl⟩
    go_wp2_with fail
    refine (number_any col 64 _).mono ?_
    rintro e w' ⟨rfl, rfl⟩
    rw [HE2.out]
    go_wp2_with fail
    refine (rfirst_at w.heap.size [0, 0] 2 _ (alloc_at _ _) rfl rfl (by omega)).mono ?_
    rintro e w1 ⟨rfl, hw1⟩
    have hb1 : Below w.heap.size w w1 := hw1 ▸ (Below.refl _ _).alloc (Nat.le_refl _) _
    clear hw1
    rw [show askE [0, 0] = 0 from rfl]
    have hs1 := hb1.size
    have hA1 := hA.below (hb1.mono hB)
    clear hA
    go_wp2_with fail
    refine (HA.out _ hA1 (by omega)).mono ?_
    rintro e w2 ⟨A1, c1, A2, c2, rfl, H⟩
    have hown := H.o1
    have hb2 := H.below
    clear H
    go_wp2
    go_ret2
    exact ⟨A1, c1, by rw [ptsL_len]; rfl, by rw [ptsL_len]; exact own_mono hown hs1, hb1.trans (hb2.mono hs1)⟩
  · have hne : (cellE S col != 0) = true := by simpa using h0
    rw [show cellsL S col = [] by unfold cellsL; rw [if_neg h0]]
    have HN2 := Go.Lib.hid (HN.out _ rfl)
    obtain ⟨E, hE⟩ : ∃ E, cellE S col = E := ⟨_, rfl⟩
    have hE2 : askE [numE 64 S, num1 64 col] = E := hE
    rw [hE] at hne ⊢
    rw [he2] at hE2
    generalize numE 64 S = e1 at *
    have HEE := Go.Lib.hid hE2
    clear h0 hE HN he2 hE2
    go_enter Try.func16, Try.ntmps16
    go_wp2_with fail
    refine (HN2.out _ hA).mono ?_
    rintro e w' ⟨rfl, rfl⟩
    go_wp2_with fail
    refine (number_any col 64 _).mono ?_
    rintro e w' ⟨rfl, rfl⟩
    rw [HE2.out]
    go_wp2_with fail
    refine (rfirst_at w.heap.size [e1, e2] 2 _ (alloc_at _ _) rfl rfl (by omega)).mono ?_
    rintro e w1 ⟨rfl, hw1⟩
    have hb1 : Below w.heap.size w w1 := hw1 ▸ (Below.refl _ _).alloc (Nat.le_refl _) _
    clear hw1
    rw [HEE.out]
    go_wp2
    go_ret2
    exact PtsE.none hb1
end Go.Proofs.Ytjippgflempdmaa
