/- Layer 10: own, kept (what is handed in, with one more behind it, stays). -/
import Derived.Test.YthannibclhidcaaFlexE
namespace Go.Proofs.Ythannibclhidcaa
set_option linter.unusedVariables false
set_option linter.unusedSimpArgs false
open Go.RowKit
attribute [local go_sem] max_fold min_fold

def t77 : T3 := ⟨77, 0, 0⟩
section
variable {ops : Array Oper} {rest : List Oper} {o : Oper} {a : Act} {Q : Exit → Act → World → Prop} {w : World}
theorem append_track (hgd : o.guard = none) (s x : Operand) (ho : o.op = .call { callee := .builtin .append, args := #[s, x], argTypes := #[23, 23] }) (base : Nat) (v : Value) (l : List T3) (t : T3) (g : Nat)
    (hs : a.eval s = v) (hx : a.eval x = .slice (some ⟨g, 0, none⟩) 1 1) (hown : w.ownsRow base 39 3 v l.length (t3s l)) (h0 : w.cell? ⟨g, 0, none⟩ = some (.int .i64 t.p)) (h1 : w.cell? ⟨g, 1, none⟩ = some (.int .i64 t.q)) (h2 : w.cell? ⟨g, 2, none⟩ = some (.int .i64 t.r)) (hn : l.length ≤ 1000000) (hbase : base ≤ w.heap.size)
    (h : ∀ v' w', w'.ownsRow base 39 3 v' (l ++ [t]).length (t3s (l ++ [t])) → w.grownBy w' v.ownBlock → v' ≠ .slice none 0 0 → wpList Try.prog ops Q rest (a.put o.dst v') w') : wpList Try.prog ops Q (o :: rest) a w := by
  obtain ⟨i0, hi, hz0, hz1, hz2⟩ := info_parts info_track
  refine wpList_append_own w hgd s x 23 ho base 39 i0 _ 3 24 Try.underlying23 hi hz0 hz1 hz2 rfl (by decide) v l.length (t3s l) hs hown ⟨g, 0, none⟩ 1 1 (t3s [t]) hx rfl (fun j u hj => ?_) (t3s_one _) (by unfold maxLen; omega) (by omega) hbase (fun v' w' h4 h5 h6 => ?_)
  · match j, hj with
    | 0, hj => simp [t3s] at hj; subst hj; simpa [Addr.add] using h0
    | 1, hj => simp [t3s] at hj; subst hj; simpa [Addr.add] using h1
    | 2, hj => simp [t3s] at hj; subst hj; simpa [Addr.add] using h2
    | j + 3, hj => simp [t3s] at hj
  · refine h v' w' (by rw [t3s_append, List.length_append]; exact h4) h5 (fun e => ?_)
    have := (h6.1 e).2
    omega
end

set_option maxHeartbeats 1000000 in
theorem own_any (B : Nat) (A : Option Addr) (c : Nat) (L : List T3) (w : World) (hA : At B w A (t3s L)) (hB : B ≤ w.heap.size) (hl : L.length ≤ 5000) (hnil : A = none → L.length = 0 ∧ c = 0) :
    Calls Try.prog 13 #[.slice A L.length c] w fun e w' => ∃ g c', e = .returned (.slice (some ⟨g, 0, none⟩) (L.length + 1) c') ∧ w'.ownsRow w.heap.size 39 3 (.slice (some ⟨g, 0, none⟩) (L.length + 1) c') (L.length + 1) (t3s (L ++ [t77])) ∧ Below w.heap.size w w' := by
  obtain ⟨i0, hi, hz0, hz1, hz2⟩ := info_parts info_track
  go_enter Try.func13, Try.ntmps13
  go_wp2_with (first | (at_builtin; refine append_many Try.underlying23 hi hz0 hz1 hz2 rfl (by decide) rfl (.tmp 4) (.tmp 5) rfl w.heap.size (.slice none 0 0) 0 [] A L.length c B (t3s L) rfl rfl hnil (World.ownsRow_nil _ _ _ _) hA (t3s_len L) (t3s_one L) ?_ ?_ (Nat.le_refl _) ?_))
  · unfold maxLen; omega
  · omega
  intro v2 w2 hown2 hg2
  have hb2 := (Below.refl w.heap.size w).grown hg2 (Nat.le_refl _) (fun k hk => by cases hk)
  have hs2 := hb2.size
  replace hown2 : w2.ownsRow w.heap.size 39 3 v2 L.length (t3s L) := by simpa using hown2
  go_wp2_with (first | (at_builtin; refine append_track rfl (.tmp 7) (.tmp 9) rfl w.heap.size _ L t77 w2.heap.size rfl rfl (hown2.alloc _) (by simp [go_sem, t77]) (by simp [go_sem, t77]) (by simp [go_sem, t77]) ?_ ?_ ?_))
  · omega
  · first | omega | (simp; omega)
  intro v3 w3 hown3 hg3 hne
  have hb3 := (hb2.alloc hs2 (.cells #[.int .i64 77, .int .i64 0, .int .i64 0] 39)).grown hg3 (by simp; omega) (own_ge hown2)
  have hown3' : w3.ownsRow w.heap.size 39 3 v3 (L.length + 1) (t3s (L ++ [t77])) := own_len hown3 (by simp)
  obtain ⟨A3, c3, rfl⟩ := own_shape hown3'
  obtain ⟨g, rfl, _, _⟩ := own_head hown3' (by omega)
  clear hown3 hg3 hown2 hg2
  go_wp2
  go_ret
  exact ⟨g, c3, rfl, hown3', hb3⟩

theorem run_neq_track (w : World) (x y z : Int) : (binOp .neq 39 (.agg #[.int .i64 x, .int .i64 y, .int .i64 z]) (.agg #[.int .i64 x, .int .i64 y, .int .i64 z])).run Try.prog w = .ok (.bool false) w := by
  simp [go_sem]
attribute [local go_sem 2000] run_neq_track

set_option maxHeartbeats 1000000 in
theorem kept_any (B : Nat) (A A2 : Option Addr) (c c2 : Nat) (L : List T3) (w : World) (h1 : At B w A (t3s (L ++ [t77]))) (h2 : At B w A2 (t3s L)) (hB : B ≤ w.heap.size) (hl : L.length ≤ 5000) :
    Calls Try.prog 19 #[.slice A (L.length + 1) c, .slice A2 L.length c2] w fun e w' => e = .returned (.bool true) ∧ Below w.heap.size w w' := by
  have hla : (L ++ [t77]).length = L.length + 1 := by simp
  obtain ⟨g, o, hA, hg, c0, y1, y2⟩ := h1.t3 (k := L.length) (by omega)
  have he : (L ++ [t77])[L.length]'(by omega) = t77 := by simp
  rw [he] at c0
  subst hA
  have c0' : w.cell? ⟨g, o + L.length * 3, none⟩ = some (.int .i64 77) := c0
  obtain ⟨n, hn⟩ : ∃ n, L.length = n := ⟨_, rfl⟩
  have HN := Go.Lib.hid hn
  have hln : n ≤ 5000 := by omega
  have hg0 := World.block_lt_of_cell? _ _ c0'
  rw [hn] at c0' ⊢
  clear hn c0 y1 y2 he hla hl
  go_enter Try.func19, Try.ntmps19
  go_wp2
  go_loopw [5] (fun i wr => ∃ k : Nat, k ≤ n ∧ i = .int .i64 k ∧ Below w.heap.size w wr) (fun i _ => n - (intOf i).toNat)
  case atStart => exact ⟨0, by omega, rfl, Below.refl _ _⟩
  case round =>
    obtain ⟨k, hk, rfl, hbr⟩ := hrel
    by_cases hlt : k < n
    · have hli : (k : Int) < (n : Int) := by omega
      have hkL : k < L.length := by have := HN.out; omega
      obtain ⟨g2, o2, hA2, hg2, a0, a1, a2⟩ := (h1.below (hbr.mono hB)).t3 (k := k) (by simp; omega)
      obtain ⟨g3, o3, hA3, hg3, b0, b1, b2⟩ := (h2.below (hbr.mono hB)).t3 hkL
      subst hA3
      injection hA2 with e
      injection e with e1 e2
      subst e1
      subst e2
      rw [List.getElem_append_left hkL] at a0 a1 a2
      have l1 := World.block_lt_of_cell? _ _ a0
      have l2 := World.block_lt_of_cell? _ _ b0
      generalize L[k] = t at *
      clear h1 h2 c0'
      go_wp2
      refine region_ext mixed (by kernel_rfl) ?_
      repeat (go_big_quiet_step (fail))
      refine wpQuiet_nil ?_
      intro w1 hb1
      go_wp2
      go_roundw
      case rel => exact ⟨k + 1, by omega, by go_num, hbr.trans (hb1.mono hbr.size)⟩
      case measure => simp [intOf]; omega
    · have hlt' : ¬ ((k : Int) < (n : Int)) := by omega
      go_wp2
      go_ret
      exact ⟨rfl, hbr⟩
end Go.Proofs.Ythannibclhidcaa
