/- Layer 9: the statements' own helpers: lent, kept, spoil, large, Same. -/
import Derived.Test.YthannibclhidcaaLeMr
namespace Go.Proofs.Ythannibclhidcaa
set_option linter.unusedVariables false
set_option linter.unusedSimpArgs false
open Go.RowKit
attribute [local go_sem] max_fold min_fold

theorem own_cap {w : World} {base : Nat} {e : TypeId} {size n m c : Nat} {A : Option Addr} {xs : List Value} (h : w.ownsRow base e size (.slice A n c) m xs) : n ≤ c ∧ c ≤ maxLen := by
  rcases h.2 with ⟨hv, _⟩ | ⟨g, cap, cur, hv, hb, hh, hn', hcap, hcs, ht⟩
  · injection hv with h1 h2 h3
    subst h2
    subst h3
    exact ⟨Nat.le_refl _, Nat.zero_le _⟩
  · injection hv with h1 h2 h3
    subst h2
    subst h3
    exact ⟨by omega, by omega⟩
theorem own_len {w : World} {base : Nat} {e : TypeId} {size n m : Nat} {v : Value} {xs : List Value} (h : w.ownsRow base e size v n xs) (hn : n = m) : w.ownsRow base e size v m xs := hn ▸ h
theorem t3s_take (L : List T3) (t : T3) : (t3s (L ++ [t])).take (L.length * 3) = t3s L := by
  rw [t3s_append, List.take_append_of_le_length (by rw [t3s_len]; omega), ← t3s_len, List.take_length]
theorem ints_take (L : List Int) (t : Int) : (ints (L ++ [t])).take L.length = ints L := by
  rw [ints_append, List.take_append_of_le_length (by rw [ints_len]; omega), ← ints_len, List.take_length]
def b77 : T3 := ⟨77, 0, 0⟩

set_option maxHeartbeats 1000000 in
theorem lent_any (B : Nat) (A : Option Addr) (c : Nat) (L : List T3) (w : World) (hA : At B w A (t3s L)) (hl : (L.length + 1) * 24 ≤ 140737488355328) (hnil : A = none → L.length = 0 ∧ c = 0) :
    Calls Try.prog 31 #[.slice A L.length c] w fun e w' => ∃ g c', e = .returned (.slice (some ⟨g, 0, none⟩) L.length c') ∧ L.length + 1 ≤ c' ∧ c' ≤ maxLen ∧ w'.ownsRow w.heap.size 54 3 (.slice (some ⟨g, 0, none⟩) (L.length + 1) c') (L.length + 1) (t3s (L ++ [b77])) ∧ Below w.heap.size w w' := by
  obtain ⟨i0, hi, hz0, hz1, hz2⟩ := info_parts info_bound
  go_enter Try.func31, Try.ntmps31
  go_wp2_with (first | (at_builtin; refine append_many Try.underlying43 hi hz0 hz1 hz2 rfl (by decide) rfl (.tmp 4) (.tmp 5) rfl w.heap.size (.slice none 0 0) 0 [] A L.length c B (t3s L) rfl rfl hnil (World.ownsRow_nil _ _ _ _) hA (t3s_len L) (t3s_one L) ?_ ?_ (Nat.le_refl _) ?_))
  · unfold maxLen; omega
  · omega
  intro v2 w2 hown2 hg2
  have hb2 := (Below.refl w.heap.size w).grown hg2 (Nat.le_refl _) (fun k hk => by cases hk)
  have hs2 := hb2.size
  replace hown2 : w2.ownsRow w.heap.size 54 3 v2 L.length (t3s L) := by simpa using hown2
  go_wp2_with (first | (at_builtin; refine append_bound rfl (.tmp 7) (.tmp 9) rfl w.heap.size _ L b77 w2.heap.size rfl rfl (hown2.alloc _) (by simp [go_sem, b77]) (by simp [go_sem, b77]) (by simp [go_sem, b77]) ?_ ?_ ?_))
  · omega
  · first | omega | (simp; omega)
  intro v3 w3 hown3 hg3 hne
  have hb3 := (hb2.alloc hs2 (.cells #[.int .i64 77, .int .i64 0, .int .i64 0] 54)).grown hg3 (by simp; omega) (own_ge hown2)
  have hown3' : w3.ownsRow w.heap.size 54 3 v3 (L.length + 1) (t3s (L ++ [b77])) := own_len hown3 (by simp)
  obtain ⟨A3, c3, rfl⟩ := own_shape hown3'
  obtain ⟨g, rfl, _, _⟩ := own_head hown3' (by omega)
  obtain ⟨hc1, hc2⟩ := own_cap hown3'
  have hci : (L.length : Int) ≤ (c3 : Int) := by omega
  clear hown3 hg3 hown2 hg2
  go_wp2
  go_ret
  exact ⟨g, c3, rfl, hc1, hc2, hown3', hb3⟩

theorem run_neq_bound (w : World) (x y z : Int) : (binOp .neq 54 (.agg #[.int .i64 x, .int .i64 y, .int .i64 z]) (.agg #[.int .i64 x, .int .i64 y, .int .i64 z])).run Try.prog w = .ok (.bool false) w := by
  simp [go_sem]
theorem run_eql_bound (w : World) (x y z : Int) : (binOp .eql 54 (.agg #[.int .i64 x, .int .i64 y, .int .i64 z]) (.agg #[.int .i64 x, .int .i64 y, .int .i64 z])).run Try.prog w = .ok (.bool true) w := by
  simp [go_sem]
attribute [local go_sem 2000] run_neq_bound run_eql_bound

set_option maxHeartbeats 2000000 in
theorem kept9_any (B : Nat) (A A2 : Option Addr) (c c2 : Nat) (L : List T3) (w : World) (h1 : At B w A (t3s (L ++ [b77]))) (h2 : At B w A2 (t3s L)) (hB : B ≤ w.heap.size) (hl : (L.length + 1) * 24 ≤ 140737488355328) (hc : L.length + 1 ≤ c) (hcm : c ≤ maxLen) :
    Calls Try.prog 40 #[.slice A L.length c, .slice A2 L.length c2] w fun e w' => e = .returned (.bool true) ∧ Below w.heap.size w w' := by
  have hla : (L ++ [b77]).length = L.length + 1 := by simp
  obtain ⟨g, o, hA, hg, c0, y1, y2⟩ := h1.t3 (k := L.length) (by omega)
  have he : (L ++ [b77])[L.length]'(by omega) = b77 := by simp
  rw [he] at c0 y1 y2
  subst hA
  have c0' : w.cell? ⟨g, o + L.length * 3, none⟩ = some (.int .i64 77) := c0
  have y1' : w.cell? ⟨g, o + L.length * 3 + 1, none⟩ = some (.int .i64 0) := y1
  have y2' : w.cell? ⟨g, o + L.length * 3 + 2, none⟩ = some (.int .i64 0) := y2
  obtain ⟨n, hn⟩ : ∃ n, L.length = n := ⟨_, rfl⟩
  have HN := Go.Lib.hid hn
  have hln : (n + 1) * 24 ≤ 140737488355328 := by omega
  have hcn : (n : Int) + 1 ≤ (c : Int) := by omega
  have hcm2 : (c : Int) ≤ 9223372036854775807 := by unfold maxLen at hcm; omega
  rw [hn] at c0' y1' y2' ⊢
  have HC0 := Go.Lib.hid c0'
  have HC1 := Go.Lib.hid y1'
  have HC2 := Go.Lib.hid y2'
  clear hn c0 y1 y2 he hla hl c0' y1' y2' hc hcm
  go_enter Try.func40, Try.ntmps40
  go_wp2
  go_loopw [5] (fun i wr => ∃ k : Nat, k ≤ n ∧ i = .int .i64 k ∧ Below w.heap.size w wr) (fun i _ => n - (intOf i).toNat)
  case atStart => exact ⟨0, by omega, rfl, Below.refl _ _⟩
  case round =>
    obtain ⟨k, hk, rfl, hbr⟩ := hrel
    by_cases hlt : k < n
    · have hli : (k : Int) < (n : Int) := by omega
      have hkL : k < L.length := by have := HN.out; omega
      obtain ⟨g2, o2, hA2, hg2, a0, a1, a2⟩ := (h1.below (hbr.mono hB)).t3 (k := k) (by simp; omega)
      obtain ⟨g3, o3, hA3, hg3, b0, b1, b2⟩ := (h2.below (hbr.mono hB)).t3 hkL
      subst hA3
      injection hA2 with e
      injection e with e1 e2
      subst e1
      subst e2
      rw [List.getElem_append_left hkL] at a0 a1 a2
      have l1 := World.block_lt_of_cell? _ _ a0
      have l2 := World.block_lt_of_cell? _ _ b0
      generalize L[k] = t at *
      clear h1 h2
      go_wp2
      refine region_ext mixed (by kernel_rfl) ?_
      repeat (go_big_quiet_step (fail))
      refine wpQuiet_nil ?_
      intro w1 hb1
      go_wp2
      go_roundw
      case rel => exact ⟨k + 1, by omega, by go_num, hbr.trans (hb1.mono hbr.size)⟩
      case measure => simp [intOf]; omega
    · have hlt' : ¬ ((k : Int) < (n : Int)) := by omega
      have x0 := cell_on hbr HC0.out
      have x1 := cell_on hbr HC1.out
      have x2 := cell_on hbr HC2.out
      clear h1 h2
      go_wp2
      go_ret
      exact ⟨rfl, hbr⟩

set_option maxHeartbeats 1000000 in
theorem same9_any (B : Nat) (A A2 : Option Addr) (c c2 : Nat) (l : List Int) (w : World) (hl : l.length ≤ 1000000000000000) (h1 : At B w A (ints l)) (h2 : At B w A2 (ints l)) :
    Calls Try.prog 38 #[.slice A l.length c, .slice A2 l.length c2] w fun e w' => e = .returned (.bool true) ∧ Below w.heap.size w w' := by
  obtain ⟨n, hn⟩ : ∃ n, l.length = n := ⟨_, rfl⟩
  have HN := Go.Lib.hid hn
  rw [hn] at hl ⊢
  clear hn
  go_enter Try.func38, Try.ntmps38
  go_wp2
  go_loopw [5] (fun i wr => ∃ k : Nat, k ≤ n ∧ i = .int .i64 k ∧ Below w.heap.size w wr ∧ At B wr A (ints l) ∧ At B wr A2 (ints l)) (fun i wr => n - (intOf i).toNat)
  case atStart => exact ⟨0, by omega, rfl, Below.refl _ _, h1, h2⟩
  case round =>
    clear h1 h2
    obtain ⟨k, hk, rfl, hbr, h1, h2⟩ := hrel
    by_cases hlt : k < n
    · have hkl : k < l.length := by have := HN.out; omega
      obtain ⟨g, o, rfl, hg, a0⟩ := h1.int hkl
      obtain ⟨g', o', rfl, hg', b0⟩ := h2.int hkl
      have i1 : (k : Int) < (n : Int) := by omega
      have lg := World.block_lt_of_cell? _ _ a0
      have lg' := World.block_lt_of_cell? _ _ b0
      generalize l[k] = x at *
      go_wp2
      refine region_ext mixed (by kernel_rfl) ?_
      repeat (go_big_quiet_step (fail))
      refine wpQuiet_nil ?_
      intro w1 hb1
      go_wp2
      go_roundw
      case rel => exact ⟨k + 1, by omega, by go_num, hbr.trans (hb1.mono hbr.size), h1.ext hb1, h2.ext hb1⟩
      case measure => simp [intOf]; omega
    · have i1 : ¬ (k : Int) < (n : Int) := by omega
      go_wp2
      go_ret
      exact ⟨rfl, hbr⟩

/-! Numbers are written over, and grown. -/
structure SMem (base : Nat) (w : World) (ob : Option Nat) (v : Value) (l : List Int) (wr : World) : Prop where
  own : wr.ownsRow base 3 1 v l.length (ints l)
  grown : w.grownBy wr ob
  loc : ∀ k, v.ownBlock = some k → some k = ob ∨ w.heap.size ≤ k
theorem grown_set {w wr : World} {ob : Option Nat} (h : w.grownBy wr ob) {g j : Nat} {u : Value} (hg : some g = ob ∨ w.heap.size ≤ g) : w.grownBy (wr.setCell ⟨g, j, none⟩ u) ob := by
  refine ⟨h.os, h.tape, h.output, by simpa using h.size, fun k hk hne => ?_⟩
  rw [heap_setCell_other _ _ _ _ (fun e => ?_)]
  · exact h.block k hk hne
  · rcases hg with hg | hg
    · exact hne (by rw [← hg, e])
    · rw [e] at hk
      simp only at hk
      omega
theorem grown_on {w wr w' : World} {ob ob' : Option Nat} (h : w.grownBy wr ob) (h2 : wr.grownBy w' ob') (hl : ∀ k, ob' = some k → some k = ob ∨ w.heap.size ≤ k) : w.grownBy w' ob := by
  refine ⟨h2.os.trans h.os, h2.tape.trans h.tape, h2.output.trans h.output, Nat.le_trans h.size h2.size, fun k hk hne => ?_⟩
  have hs := h.size
  rw [h2.block k (by omega) (fun e => ?_), h.block k hk hne]
  rcases hl k e.symm with h3 | h3
  · exact hne h3
  · omega
theorem SMem.store {base : Nat} {w wr : World} {ob : Option Nat} {n c g : Nat} {l : List Int} (h : SMem base w ob (.slice (some ⟨g, 0, none⟩) n c) l wr) (hn : l.length = n) (j : Nat) (u : Int) : SMem base w ob (.slice (some ⟨g, 0, none⟩) n c) (l.set j u) (wr.setCell ⟨g, j, none⟩ (.int .i64 u)) := by
  have h0 := h.own
  rw [hn] at h0
  have h1 := own_store h0 j (.int .i64 u)
  rw [ints_set] at h1
  exact ⟨by rw [List.length_set, hn]; exact h1, grown_set h.grown (h.loc g rfl), h.loc⟩

theorem SMem.app {base s : Nat} {w wr w' : World} {ob : Option Nat} {v v' : Value} {l l' : List Int} {o : Obj} (hs : wr.heap.size ≤ s) (h : SMem base w ob v l wr) (hg : (wr.alloc o).grownBy w' v.ownBlock) (ho : w'.ownsRow base 3 1 v' l'.length (ints l')) (hl : v'.ownBlock = v.ownBlock ∨ v'.ownBlock = some s) : SMem base w ob v' l' w' := by
  refine ⟨ho, grown_on (grown_trans h.grown (World.grownBy_alloc wr o ob)) hg h.loc, fun k hk => ?_⟩
  rcases hl with e | e
  · exact h.loc k (by rw [← e, hk])
  · right
    rw [hk] at e
    injection e with e
    have := h.grown.size
    omega

set_option maxRecDepth 100000 in
set_option maxHeartbeats 4000000 in
theorem spoil_any (base : Nat) (A : Option Addr) (c : Nat) (l : List Int) (w : World) (hown : w.ownsRow base 3 1 (.slice A l.length c) l.length (ints l)) (hb : base ≤ w.heap.size) (hl : l.length ≤ 100000) :
    Calls Try.prog 39 #[.slice A l.length c] w fun e w' => e = .returned (.tuple #[]) ∧ w.grownBy w' (Value.slice A l.length c).ownBlock := by
  obtain ⟨n, hn⟩ : ∃ n, l.length = n := ⟨_, rfl⟩
  rw [hn] at hl hown ⊢
  obtain ⟨ob, hob⟩ : ∃ ob, (Value.slice A n c).ownBlock = ob := ⟨_, rfl⟩
  have H0 : Hid (∃ M : List Int, M.length = n ∧ SMem base w ob (.slice A n c) M w) := Go.Lib.hid ⟨l, hn, by rw [hn]; exact hown, World.grownBy.refl _ _, fun k hk => .inl (by rw [← hk, hob])⟩
  rw [hob]
  clear hown hn hob
  go_enter Try.func39, Try.ntmps39
  go_wp2
  go_loopw [2] (fun i wr => ∃ k : Nat, k ≤ n ∧ i = .int .i64 k ∧ Hid (∃ M : List Int, M.length = n ∧ SMem base w ob (.slice A n c) M wr)) (fun i _ => n - (intOf i).toNat)
  case atStart => exact ⟨0, by omega, rfl, H0⟩
  case round =>
    clear H0
    obtain ⟨k, hk, rfl, HS⟩ := hrel
    by_cases hlt : k < n
    · have hli : (k : Int) < (n : Int) := by omega
      obtain ⟨M, hM, hS⟩ := HS.out
      have ho := hS.own
      rw [hM] at ho
      obtain ⟨g, rfl, hg1, hg2, hcell⟩ := cell_row ho hM hlt
      have x1 := hcell k hlt
      have f1 := ho.frozenAt k
      have HS2 : Hid (∃ M : List Int, M.length = n ∧ SMem base w ob (.slice (some ⟨g, 0, none⟩) n c) M (wr.setCell ⟨g, k, none⟩ (.int .i64 99))) := Go.Lib.hid ⟨M.set k 99, by simpa using hM, hS.store hM k 99⟩
      clear hcell ho hS HS hM
      generalize M.getD k 0 = y at *
      go_wp2
      go_roundw
      case rel => exact ⟨k + 1, by omega, by go_num, HS2⟩
      case measure => simp [intOf]; omega
    · have hlt' : ¬ ((k : Int) < (n : Int)) := by omega
      go_wp2
      go_loopw [0, 3] (fun v i wq => ∃ (k : Nat) (A' : Option Addr) (c' : Nat), k ≤ 4 ∧ i = .int .i64 k ∧ v = .slice A' (n + k) c' ∧ Hid (∃ M : List Int, M.length = n + k ∧ SMem base w ob (.slice A' (n + k) c') M wq)) (fun _ i _ => 4 - (intOf i).toNat)
      case atStart => exact ⟨0, A, c, by omega, rfl, rfl, HS⟩
      case round =>
        clear HS
        obtain ⟨k2, A', c', hk2, rfl, rfl, HS⟩ := hrel
        by_cases hlt2 : k2 < 4
        · have hli2 : (k2 : Int) < 4 := by omega
          obtain ⟨M, hM, hS⟩ := HS.out
          have HSM := Go.Lib.hid hS
          have hsz := hS.grown.size
          have HMl := Go.Lib.hid hM
          have ho : wr.ownsRow base 3 1 (.slice A' (n + k2) c') M.length (ints M) := hS.own
          clear hS HS
          go_wp2_with (first | (at_builtin; refine append_int_at rfl (.tmp 17) (.tmp 18) rfl base _ M 98 wr.heap.size rfl rfl (ho.alloc _) (by simp [go_sem]) ?_ ?_ ?_))
          · omega
          · (try simp); omega
          intro v2 w5 hown5 hg5 hloc
          have HS5 := Go.Lib.hid (SMem.app (l' := M ++ [98]) (Nat.le_succ _) HSM.out hg5 (own_len hown5 (by simp; omega)) hloc)
          obtain ⟨A2, c2, rfl⟩ := own_shape hown5
          clear hown5 hg5 hloc ho HSM
          go_wp2
          go_roundw
          case rel => exact ⟨k2 + 1, A2, c2, by omega, by go_num, by rw [Nat.add_assoc], Go.Lib.hid ⟨M ++ [98], by simp; omega, by rw [← Nat.add_assoc]; exact HS5.out⟩⟩
          case measure => simp [intOf]; omega
        · have hlt2' : ¬ ((k2 : Int) < 4) := by omega
          obtain ⟨M, hM, hS⟩ := HS.out
          have ho := hS.own
          rw [hM] at ho
          obtain ⟨g, rfl, hg1, hg2, hcell⟩ := cell_row ho hM (i := 0) (by omega)
          have x1 := hcell 0 (by omega)
          have f1 := ho.frozenAt 0
          have hgs := grown_set (j := 0) (u := .int .i64 97) hS.grown (hS.loc g rfl)
          have HGS := Go.Lib.hid hgs
          clear hcell ho hS HS hM hgs
          generalize M.getD 0 0 = y at *
          go_wp2
          go_end0
          exact ⟨rfl, HGS.out⟩

def largeB (n : Int) (k : Nat) : Bool := (decide (200 < n) && decide (n ≤ 4096)) || (decide (400 < k) && decide (k ≤ 4096))
set_option maxHeartbeats 1000000 in
theorem large_any (A : Option Addr) (c : Nat) (n : Int) (k : Nat) (w : World) (hk : k ≤ 9000000000000000000) :
    Calls Try.prog 30 #[.int .i64 n, .slice A k c] w fun e w' => e = .returned (.bool (largeB n k)) ∧ w = w' := by
  by_cases h1 : 200 < n
  · by_cases h2 : n ≤ 4096
    · rw [show largeB n k = true by simp [largeB, h1, h2]]
      go_enter Try.func30, Try.ntmps30
      go_wp2
      go_ret
      exact ⟨rfl, rfl⟩
    · by_cases h3 : 400 < k
      · have h3' : (400 : Int) < (k : Int) := by omega
        by_cases h4 : k ≤ 4096
        · have h4' : (k : Int) ≤ 4096 := by omega
          rw [show largeB n k = true by simp [largeB, h3, h4]]
          clear h3 h4
          go_enter Try.func30, Try.ntmps30
          go_wp2
          go_ret
          exact ⟨rfl, rfl⟩
        · have h4' : ¬ (k : Int) ≤ 4096 := by omega
          rw [show largeB n k = false by simp [largeB, h2, h4]]
          clear h3 h4
          go_enter Try.func30, Try.ntmps30
          go_wp2
          go_ret
          exact ⟨rfl, rfl⟩
      · have h3' : ¬ (400 : Int) < (k : Int) := by omega
        rw [show largeB n k = false by simp [largeB, h2, h3]]
        clear h3
        go_enter Try.func30, Try.ntmps30
        go_wp2
        go_ret
        exact ⟨rfl, rfl⟩
  · by_cases h3 : 400 < k
    · have h3' : (400 : Int) < (k : Int) := by omega
      by_cases h4 : k ≤ 4096
      · have h4' : (k : Int) ≤ 4096 := by omega
        rw [show largeB n k = true by simp [largeB, h3, h4]]
        clear h3 h4
        go_enter Try.func30, Try.ntmps30
        go_wp2
        go_ret
        exact ⟨rfl, rfl⟩
      · have h4' : ¬ (k : Int) ≤ 4096 := by omega
        rw [show largeB n k = false by simp [largeB, h1, h4]]
        clear h3 h4
        go_enter Try.func30, Try.ntmps30
        go_wp2
        go_ret
        exact ⟨rfl, rfl⟩
    · have h3' : ¬ (400 : Int) < (k : Int) := by omega
      rw [show largeB n k = false by simp [largeB, h1, h3]]
      clear h3
      go_enter Try.func30, Try.ntmps30
      go_wp2
      go_ret
      exact ⟨rfl, rfl⟩
end Go.Proofs.Ythannibclhidcaa
