/- Layer 25, the reference: seams, lines, cells, left, right, under. -/
import Derived.Test.YtcfgpmmclijonaaGreatDoorEdSh
import Derived.Test.YtcfgpmmclijonaaGreatDoorRuI2
import Derived.Test.YtcfgpmmclijonaaGreatDoorRuW2
namespace Go.Proofs.YtcfgpmmclijonaaGreatDoor
set_option linter.unusedVariables false
set_option linter.unusedSimpArgs false
set_option maxRecDepth 100000
open Go.RowKit Go.Shelf Go.Lib
set_option maxRecDepth 100000
set_option maxHeartbeats 8000000

theorem renext_any (s : ByteArray) (a : Nat) (w : World) (hs : s.size ≤ 4000000) : Calls Tryz.prog 48 #[.string s, .int .i64 (a : Int)] w fun e w' => e = .returned (.int .i64 (rightE s.data.toList a : Int)) ∧ Below w.heap.size w w' := by
  have C := rNext_any s (a : Int) w hs
  unfold rightE
  obtain ⟨⟨kk, is⟩, he⟩ : ∃ z, nextE (pcs s.data.toList) (a : Int) = z := ⟨_, rfl⟩
  rw [he] at C ⊢
  unfold ansV at C
  simp only at C ⊢
  cases is with
  | true =>
    rw [if_pos rfl]
    go_enter Tryz.func48, Tryz.ntmps48
    go_wp2_with fail
    with_reducible refine C.mono ?_
    rintro e w1 ⟨rfl, hb1⟩
    go_wp2
    go_ret
    exact ⟨rfl, hb1⟩
  | false =>
    rw [if_neg (by decide)]
    go_enter Tryz.func48, Tryz.ntmps48
    go_wp2_with fail
    with_reducible refine C.mono ?_
    rintro e w1 ⟨rfl, hb1⟩
    go_wp2
    go_ret
    exact ⟨rfl, hb1⟩
theorem reback_any (s : ByteArray) (a : Nat) (w : World) (hs : s.size ≤ 4000000) (ha : a ≤ s.size) : Calls Tryz.prog 57 #[.string s, .int .i64 (a : Int)] w fun e w' => e = .returned (.int .i64 (leftE s.data.toList a : Int)) ∧ Below w.heap.size w w' := by
  have C := rBack_any s (a : Int) w hs
  unfold leftE
  obtain ⟨⟨kk, is⟩, he⟩ : ∃ z, backE (pcs s.data.toList) (a : Int) = z := ⟨_, rfl⟩
  rw [he] at C ⊢
  unfold ansV at C
  simp only at C ⊢
  cases is with
  | true =>
    rw [if_pos rfl]
    go_enter Tryz.func57, Tryz.ntmps57
    go_wp2_with fail
    with_reducible refine C.mono ?_
    rintro e w1 ⟨rfl, hb1⟩
    go_wp2
    go_ret
    exact ⟨rfl, hb1⟩
  | false =>
    rw [if_neg (by decide)]
    go_enter Tryz.func57, Tryz.ntmps57
    go_wp2_with fail
    with_reducible refine C.mono ?_
    rintro e w1 ⟨rfl, hb1⟩
    go_wp2
    go_ret
    exact ⟨rfl, hb1⟩
theorem settled_full (l : By) : settledE l l.length = l.length := (Seam.last l).same
theorem reset_any (s : ByteArray) (a : Nat) (w : World) (hs : s.size ≤ 4000000) (ha : a ≤ s.size) : Calls Tryz.prog 41 #[.string s, .int .i64 (a : Int)] w fun e w' => e = .returned (.int .i64 (settledE s.data.toList a : Int)) ∧ Below w.heap.size w w' := by
  have hl := ba_len s
  by_cases h1 : a = s.size
  · subst h1
    have hz : settledE s.data.toList s.size = s.size := by rw [← hl]; exact settled_full _
    rw [hz]
    have q1 : decide ((s.size : Int) ≤ (s.size : Int)) = true := decide_eq_true (by omega)
    go_enter Tryz.func41, Tryz.ntmps41
    go_wp2
    go_ret
    exact ⟨rfl, Below.refl _ _⟩
  have q1 : decide ((s.size : Int) ≤ (a : Int)) = false := decide_eq_false (by omega)
  have q1' : ¬ (s.size : Int) ≤ (a : Int) := by omega
  have q1n : ¬ s.size ≤ a := by omega
  by_cases h0 : a = 0
  · subst h0
    rw [settled_zero]
    have q2 : ¬ s.size ≤ 0 := by omega
    have q3 : decide (s.size ≤ 0) = false := decide_eq_false q2
    have q4 : ¬ s.size = 0 := by omega
    have q5 : decide (s.size = 0) = false := decide_eq_false q4
    go_enter Tryz.func41, Tryz.ntmps41
    go_wp2
    go_ret
    exact ⟨rfl, Below.refl _ _⟩
  obtain ⟨k, e1, e2, e3⟩ := back_next (l := s.data.toList) (a := a) (by omega) (by omega)
  have CB := reback_any s a w hs ha
  have hk : leftE s.data.toList a = k := by unfold leftE; rw [e1]; rfl
  rw [hk] at CB
  have CN := fun w1 => renext_any s k w1 hs
  have hn : rightE s.data.toList k = settledE s.data.toList a := by unfold rightE; rw [e3]; rfl
  rw [hn] at CN
  have hge := settled_ge (l := s.data.toList) (a := a) (by omega)
  generalize settledE s.data.toList a = z at *
  have q2 : ((a : Int) == 0) = false := beq_eq_false_iff_ne.2 (by omega)
  have q3 : ¬ (a : Int) = 0 := by omega
  clear e1 e3 hk hn
  by_cases hza : z = a
  · subst hza
    go_enter Tryz.func41, Tryz.ntmps41
    go_wp2_with fail
    with_reducible refine CB.mono ?_
    rintro e w1 ⟨rfl, hb1⟩
    have CN1 := CN w1
    clear CB CN
    go_wp2_with fail
    with_reducible refine CN1.mono ?_
    rintro e w2 ⟨rfl, hb2⟩
    go_wp2
    go_ret
    exact ⟨rfl, hb1.trans (hb2.mono hb1.size)⟩
  · have q4 : ((z : Int) == (a : Int)) = false := beq_eq_false_iff_ne.2 (by omega)
    have q5 : max (z : Int) (a : Int) = (z : Int) := by omega
    have q6 : ¬ (z : Int) = (a : Int) := by omega
    go_enter Tryz.func41, Tryz.ntmps41
    go_wp2_with fail
    with_reducible refine CB.mono ?_
    rintro e w1 ⟨rfl, hb1⟩
    have CN1 := CN w1
    clear CB CN
    go_wp2_with fail
    with_reducible refine CN1.mono ?_
    rintro e w2 ⟨rfl, hb2⟩
    go_wp2
    refine bodyPost_ret (v := .int .i64 (z : Int)) (by simp [results, Tryz.results41, go_sem, *]) rfl ⟨rfl, hb1.trans (hb2.mono hb1.size)⟩
theorem recells_any (s : ByteArray) (w : World) (hs : s.size ≤ 4000000) : Calls Tryz.prog 47 #[.string s] w fun e w' => e = .returned (.int .i64 (total (pcs s.data.toList) : Int)) ∧ Below w.heap.size w w' := by
  have C := small (rCells_any s w (by omega)) hs
  generalize total (pcs s.data.toList) = T at *
  generalize (pcs s.data.toList).length = L at *
  go_enter Tryz.func47, Tryz.ntmps47
  go_wp2_with fail
  with_reducible refine C.mono ?_
  rintro e w1 ⟨rfl, hb1⟩
  go_wp2
  go_ret
  exact ⟨rfl, hb1⟩
/-! ### lines -/
theorem LineA.uniq {l : By} {a A A' : Nat} (h : LineA l a A) (h' : LineA l a A') : A = A' := by
  obtain ⟨h1, h2, h3⟩ := h
  obtain ⟨g1, g2, g3⟩ := h'
  false_or_by_contra
  rcases Nat.lt_or_gt_of_ne (show A ≠ A' by assumption) with hlt | hlt
  · rcases g2 with rfl | ⟨_, g2⟩
    · omega
    · exact h3 (A' - 1) (by omega) (by omega) g2
  · rcases h2 with rfl | ⟨_, h2⟩
    · omega
    · exact g3 (A - 1) (by omega) (by omega) h2
theorem LineB.uniq {l : By} {a B B' : Nat} (h : LineB l a B) (h' : LineB l a B') : B = B' := by
  obtain ⟨h1, h1', h2, h3⟩ := h
  obtain ⟨g1, g1', g2, g3⟩ := h'
  false_or_by_contra
  rcases Nat.lt_or_gt_of_ne (show B ≠ B' by assumption) with hlt | hlt
  · rcases h2 with rfl | h2
    · omega
    · exact g3 B h1 hlt h2
  · rcases g2 with rfl | g2
    · omega
    · exact h3 B' g1 hlt g2
theorem byte_at (s : ByteArray) {i : Nat} (hi : i < s.size) : s.data.toList[i]? = some (s[i]'hi) := by
  have hl := ba_len s
  rw [List.getElem?_eq_getElem (by omega)]
  rfl
theorem reline_any (s : ByteArray) (a : Nat) (w : World) (hs : s.size ≤ 4000000) (ha : a ≤ s.size) : Calls Tryz.prog 46 #[.string s, .int .i64 (a : Int)] w fun e w' => e = .returned (.tuple #[.int .i64 (lnA s a : Int), .int .i64 (lnB s a : Int)]) ∧ Below w.heap.size w w' := by
  have HA := hid (lnA_eq ha).2
  have HB := hid (lnB_eq ha).2
  generalize lnA s a = A at *
  generalize lnB s a = B at *
  go_enter Tryz.func46, Tryz.ntmps46
  go_wp2
  go_loopg [6] (a + 1) (fun gh v6 wr => ∃ k : Nat, v6 = .int .i64 (k : Int) ∧ k ≤ a ∧ k + 1 ≤ gh ∧ Hid (∀ i, k ≤ i → i < a → s.data.toList[i]? ≠ some 10) ∧ Below w.heap.size w wr)
  case atStart => exact ⟨a, rfl, by omega, by omega, hid (fun i h1 h2 => by omega), Below.refl _ _⟩
  case round =>
    obtain ⟨k, rfl, hk, hgh, HK, hbr⟩ := hrel
    by_cases h0 : k = 0
    · have hkA : k = A := LineA.uniq ⟨hk, .inl h0, HK.out⟩ HA.out
      subst hkA
      subst h0
      clear HK
      go_wp2
      go_loopg [7] (s.size + 1) (fun gh v7 wr => ∃ j : Nat, v7 = .int .i64 (j : Int) ∧ a ≤ j ∧ j ≤ s.size ∧ s.size - j + 1 ≤ gh ∧ Hid (∀ i, a ≤ i → i < j → s.data.toList[i]? ≠ some 10) ∧ Below w.heap.size w wr)
      case atStart => exact ⟨a, rfl, by omega, by omega, by omega, hid (fun i h1 h2 => by omega), hbr⟩
      case round =>
        clear hbr
        obtain ⟨j, rfl, h1, h2, hgj, HJ, hbr⟩ := hrel
        by_cases hlt : j < s.size
        · have hli : (j : Int) < (s.size : Int) := by omega
          have hbx := byte_at s hlt
          obtain ⟨y, hy⟩ : ∃ y, s[j]'hlt = y := ⟨_, rfl⟩
          rw [hy] at hbx
          by_cases hx : y = 10
          · have hjB : j = B := LineB.uniq ⟨h1, by rw [ba_len]; exact h2, .inr (by rw [hbx, hx]), HJ.out⟩ HB.out
            subst hjB
            have x1 : (y.toNat : Int) = 10 := by rw [hx]; rfl
            clear hbx hx
            go_wp2
            exact bodyPost_ret (by simp [results, Tryz.results46, go_sem, *]) rfl ⟨rfl, hbr⟩
          · have x1 : ¬ (y.toNat : Int) = 10 := fun h => hx (UInt8.toNat_inj.1 (by show y.toNat = 10; omega))
            have x2 : ((y.toNat : Int) == 10) = false := beq_eq_false_iff_ne.2 x1
            have HJ2 : Hid (∀ i, a ≤ i → i < j + 1 → s.data.toList[i]? ≠ some 10) := hid (fun i g1 g2 => by
              by_cases e : i = j
              · rw [e, hbx]
                intro q
                injection q with q
                exact hx q
              · exact HJ.out i g1 (by omega))
            clear hbx hx
            go_wp2
            go_roundg (s.size - (j + 1) + 1)
            case measure => omega
            case rel => exact ⟨j + 1, by go_num, by omega, by omega, by omega, HJ2, hbr⟩
        · have hjB : j = B := LineB.uniq ⟨h1, by rw [ba_len]; exact h2, .inl (by rw [ba_len]; omega), HJ.out⟩ HB.out
          have hli : ¬ (j : Int) < (s.size : Int) := by omega
          subst hjB
          go_wp2
          exact bodyPost_ret (by simp [results, Tryz.results46, go_sem, *]) rfl ⟨rfl, hbr⟩
    · obtain ⟨k, rfl⟩ : ∃ k', k = k' + 1 := ⟨k - 1, by omega⟩
      have hlk : k < s.size := by omega
      have hlki : (k : Int) < (s.size : Int) := by omega
      have hk0 : (0 : Int) < (k : Int) + 1 := by omega
      have hbx := byte_at s hlk
      obtain ⟨y, hy⟩ : ∃ y, s[k]'hlk = y := ⟨_, rfl⟩
      rw [hy] at hbx
      by_cases hx : y = 10
      · have hkA : k + 1 = A := LineA.uniq ⟨hk, .inr ⟨by omega, by rw [Nat.add_sub_cancel, hbx, hx]⟩, HK.out⟩ HA.out
        subst hkA
        have x1 : (y.toNat : Int) = 10 := by rw [hx]; rfl
        clear hbx hx HK
        go_wp2
        go_loopg [7] (s.size + 1) (fun gh v7 wr => ∃ j : Nat, v7 = .int .i64 (j : Int) ∧ a ≤ j ∧ j ≤ s.size ∧ s.size - j + 1 ≤ gh ∧ Hid (∀ i, a ≤ i → i < j → s.data.toList[i]? ≠ some 10) ∧ Below w.heap.size w wr)
        case atStart => exact ⟨a, rfl, by omega, by omega, by omega, hid (fun i h1 h2 => by omega), hbr⟩
        case round =>
          clear hbr
          obtain ⟨j, rfl, h1, h2, hgj, HJ, hbr⟩ := hrel
          by_cases hlt : j < s.size
          · have hli : (j : Int) < (s.size : Int) := by omega
            have hbx := byte_at s hlt
            obtain ⟨y, hy⟩ : ∃ y, s[j]'hlt = y := ⟨_, rfl⟩
            rw [hy] at hbx
            by_cases hx : y = 10
            · have hjB : j = B := LineB.uniq ⟨h1, by rw [ba_len]; exact h2, .inr (by rw [hbx, hx]), HJ.out⟩ HB.out
              subst hjB
              have x1 : (y.toNat : Int) = 10 := by rw [hx]; rfl
              clear hbx hx
              go_wp2
              exact bodyPost_ret (by simp [results, Tryz.results46, go_sem, *]) rfl ⟨rfl, hbr⟩
            · have x1 : ¬ (y.toNat : Int) = 10 := fun h => hx (UInt8.toNat_inj.1 (by show y.toNat = 10; omega))
              have x2 : ((y.toNat : Int) == 10) = false := beq_eq_false_iff_ne.2 x1
              have HJ2 : Hid (∀ i, a ≤ i → i < j + 1 → s.data.toList[i]? ≠ some 10) := hid (fun i g1 g2 => by
                by_cases e : i = j
                · rw [e, hbx]
                  intro q
                  injection q with q
                  exact hx q
                · exact HJ.out i g1 (by omega))
              clear hbx hx
              go_wp2
              go_roundg (s.size - (j + 1) + 1)
              case measure => omega
              case rel => exact ⟨j + 1, by go_num, by omega, by omega, by omega, HJ2, hbr⟩
          · have hjB : j = B := LineB.uniq ⟨h1, by rw [ba_len]; exact h2, .inl (by rw [ba_len]; omega), HJ.out⟩ HB.out
            have hli : ¬ (j : Int) < (s.size : Int) := by omega
            subst hjB
            go_wp2
            exact bodyPost_ret (by simp [results, Tryz.results46, go_sem, *]) rfl ⟨rfl, hbr⟩
      · have x1 : ¬ (y.toNat : Int) = 10 := fun h => hx (UInt8.toNat_inj.1 (by show y.toNat = 10; omega))
        have x2 : ((y.toNat : Int) == 10) = false := beq_eq_false_iff_ne.2 x1
        have HK2 : Hid (∀ i, k ≤ i → i < a → s.data.toList[i]? ≠ some 10) := hid (fun i g1 g2 => by
          by_cases e : i = k
          · rw [e, hbx]
            intro q
            injection q with q
            exact hx q
          · exact HK.out i (by omega) g2)
        clear hbx hx
        go_wp2
        go_roundg (k + 1)
        case measure => omega
        case rel => exact ⟨k, by go_num, by omega, by omega, HK2, hbr⟩
end Go.Proofs.YtcfgpmmclijonaaGreatDoor

/- Layer 25, the reference: rows, left, right, under, across. -/
namespace Go.Proofs.YtcfgpmmclijonaaGreatDoor
set_option linter.unusedVariables false
set_option linter.unusedSimpArgs false
set_option maxRecDepth 100000
open Go.RowKit Go.Shelf Go.Lib
set_option maxRecDepth 100000
set_option maxHeartbeats 8000000

theorem info_int_ : (Tryz.prog.info? 3).map (fun i => (i.zero, i.size, i.bytes)) = some (some (.int .i64 0), 1, 8) := by kernel_rfl
section
variable {ops : Array Oper} {rest : List Oper} {o : Oper} {a : Act} {Q : Exit → Act → World → Prop} {w : World}
theorem append_int_ (hgd : o.guard = none) (s x : Operand) (ho : o.op = .call { callee := .builtin .append, args := #[s, x], argTypes := #[84, 84] }) (base : Nat) (v : Value) (l : List Int) (n : Int) (g : Nat)
    (hs : a.eval s = v) (hx : a.eval x = .slice (some ⟨g, 0, none⟩) 1 1) (hown : w.ownsRow base 3 1 v l.length (ints l)) (h0 : w.cell? ⟨g, 0, none⟩ = some (.int .i64 n)) (hn : l.length ≤ 5000000) (hbase : base ≤ w.heap.size)
    (h : ∀ v' w', w'.ownsRow base 3 1 v' (l ++ [n]).length (ints (l ++ [n])) → w.grownBy w' v.ownBlock → wpList Tryz.prog ops Q rest (a.put o.dst v') w') : wpList Tryz.prog ops Q (o :: rest) a w := by
  obtain ⟨i0, hi, hz0, hz1, hz2⟩ := info_parts info_int_
  refine wpList_append_own w hgd s x 84 ho base 3 i0 _ 1 8 Tryz.underlying84 hi hz0 hz1 hz2 rfl (by decide) v l.length (ints l) hs hown ⟨g, 0, none⟩ 1 1 (ints [n]) hx rfl (fun j u hj => ?_) (ints_one _) (by unfold maxLen; omega) (by omega) hbase (fun v' w' h4 h5 _ => ?_)
  · match j, hj with
    | 0, hj => simp [ints] at hj; subst hj; simpa [Addr.add] using h0
    | j + 1, hj => simp [ints] at hj
  · exact h v' w' (by rw [ints_append, List.length_append]; exact h4) h5
end
/-! ### rows -/
def rowsF (l : By) : Nat → Nat → List Int
  | 0, _ => []
  | f + 1, k => if k < l.length then (k : Int) :: rowsF l f (wordE kd (pcs l) (k : Int)).1 else []
def rowsE (l : By) : List Int := rowsF l (l.length + 1) 0
def lastLt (a : Nat) (t : Int) (R : List Int) : Int := R.foldl (fun t r => if r < (a : Int) then r else t) t
theorem rowsF_ge (l : By) : ∀ (f k : Nat), Seam l k → ∀ r ∈ rowsF l f k, (k : Int) ≤ r
  | 0, _, _, r, h => by cases h
  | f + 1, k, hk, r, h => by
    unfold rowsF at h
    split at h
    · rename_i hlt
      obtain ⟨n, e, h1, h2⟩ := hk.word hlt
      rw [e] at h
      rcases List.mem_cons.1 h with rfl | h
      · omega
      · have := rowsF_ge l f n h1 r h
        omega
    · cases h
theorem lastLt_ge {a : Nat} {t : Int} : ∀ (R : List Int), (∀ r ∈ R, (a : Int) ≤ r) → lastLt a t R = t
  | [], _ => rfl
  | r :: R, h => by
    have h1 := h r List.mem_cons_self
    unfold lastLt
    rw [List.foldl_cons, if_neg (by omega)]
    exact lastLt_ge R (fun x hx => h x (List.mem_cons_of_mem _ hx))
theorem rows_last {l : By} {a : Nat} (ha : a ≤ l.length) : ∀ (f f' k t0 : Nat), Seam l k → l.length < f' + k → a < f + k → 0 < f → lastLt a (t0 : Int) (rowsF l f' k) = (lrowF l a f k t0 : Int)
  | 0, _, _, _, _, _, _, h => absurd h (Nat.lt_irrefl 0)
  | f + 1, f', k, t0, hk, h1, h2, _ => by
    have hkl := hk.le
    obtain ⟨f', rfl⟩ : ∃ g, f' = g + 1 := ⟨f' - 1, by omega⟩
    unfold rowsF lrowF
    by_cases hlt : k < l.length
    · obtain ⟨n, e, h3, h4⟩ := hk.word hlt
      rw [if_pos hlt, e]
      by_cases hka : k < a
      · rw [if_pos hka]
        unfold lastLt
        rw [List.foldl_cons, if_pos (by omega)]
        exact rows_last ha f f' n k h3 (by omega) (by omega) (by omega)
      · rw [if_neg hka]
        refine lastLt_ge _ (fun r hr => ?_)
        rcases List.mem_cons.1 hr with rfl | hr
        · omega
        · have := rowsF_ge l f' n h3 r hr
          omega
    · rw [if_neg hlt, if_neg (by omega)]
      rfl
theorem rows_lrow {l : By} {a : Nat} (ha : a ≤ l.length) : lastLt a 0 (rowsE l) = (lrowE l a : Int) := rows_last ha (a + 1) (l.length + 1) 0 0 (Seam.zero l) (by omega) (by omega) (by omega)
theorem rowsF_len (l : By) : ∀ (f k : Nat), Seam l k → (rowsF l f k).length ≤ l.length - k
  | 0, _, _ => Nat.zero_le _
  | f + 1, k, hk => by
    unfold rowsF
    split
    · rename_i hlt
      obtain ⟨n, e, h1, h2⟩ := hk.word hlt
      rw [e]
      have := rowsF_len l f n h1
      have := h1.le
      simp only [List.length_cons]
      omega
    · exact Nat.zero_le _
theorem rows_any (s : ByteArray) (w : World) (hT : Tabs w) (hs : s.size ≤ 4000000) : Calls Tryz.prog 58 #[.string s] w fun e w' => ∃ A c, e = .returned (.slice A (rowsE s.data.toList).length c) ∧ w'.ownsRow w.heap.size 3 1 (.slice A (rowsE s.data.toList).length c) (rowsE s.data.toList).length (ints (rowsE s.data.toList)) ∧ Below w.heap.size w w' := by
  have hl := ba_len s
  obtain ⟨R, hR⟩ : ∃ R, rowsE s.data.toList = R := ⟨_, rfl⟩
  rw [hR]
  unfold rowsE at hR
  rw [hl] at hR
  have HR := hid hR
  have HT := hid hT
  clear hR hT
  go_enter Tryz.func58, Tryz.ntmps58
  go_wp2
  go_loopg [3, 4] (s.size + 1) (fun gh v3 v4 wr => ∃ (L : List Int) (k f : Nat) (A : Option Addr) (c : Nat), v3 = .slice A L.length c ∧ v4 = .int .i64 (k : Int) ∧ Seam s.data.toList k ∧ s.size + 1 - k ≤ gh ∧ s.size < f + k ∧ L.length ≤ k ∧ Hid (L ++ rowsF s.data.toList f k = R) ∧ Hid (wr.ownsRow w.heap.size 3 1 (.slice A L.length c) L.length (ints L) ∧ Below w.heap.size w wr))
  case atStart => exact ⟨[], 0, s.size + 1, none, 0, rfl, rfl, Seam.zero _, by omega, by omega, by simp, HR, hid ⟨World.ownsRow_nil _ _ _ _, Below.refl _ _⟩⟩
  case round =>
    obtain ⟨L, k, f, A, c, rfl, rfl, hk, hgh, hf, hLk, HF, HO⟩ := hrel
    have hk4 := hk.le
    rw [hl] at hk4
    by_cases hlt : k < s.size
    · obtain ⟨f, rfl⟩ : ∃ f', f = f' + 1 := ⟨f - 1, by omega⟩
      obtain ⟨n, hn, hn1, hn2⟩ := hk.word (by omega)
      have hF := HF.out
      rw [rowsF, if_pos (by omega), hn] at hF
      have HF2 : Hid ((L ++ [(k : Int)]) ++ rowsF s.data.toList f n = R) := hid (by rw [List.append_assoc]; exact hF)
      have hli : (k : Int) < (s.size : Int) := by omega
      have hsr := HO.out.2.size
      clear hF HF
      go_wp2_with (
        at_builtin
        refine append_int_ rfl _ _ rfl w.heap.size (.slice A L.length c) L (k : Int) wr.heap.size rfl rfl (own_below' HO.out.1 ((Below.refl _ _).alloc (Nat.le_refl _) _)) (by rw [blk_cell (World.alloc_heap_new wr (.cells #[.int .i64 (k : Int)] 3))]; rfl) (by omega) (by simp; omega) (fun v' w4 k1 k2 => ?_)
        obtain ⟨A', cc', rfl⟩ := own_shape k1
        have HB := hid ((HO.out.2.alloc hsr _).grown k2 (by simp; omega) (fun k hk => own_ge HO.out.1 k hk))
        have HOO := hid k1
        clear k1 k2)
      have CW := rWord_any s (k : Int) w4 (tabs_on HT.out HB.out) hs
      rw [hn] at CW
      unfold ansV at CW
      simp only at CW
      clear hn
      go_wp2_with fail
      with_reducible refine CW.mono ?_
      rintro e w5 ⟨rfl, hb5⟩
      have HO5 := hid (And.intro (own_below' HOO.out hb5) (HB.out.trans (hb5.mono HB.out.size)))
      clear CW hb5 HOO HB HO
      go_wp2
      go_roundg (s.size + 1 - n)
      case measure => omega
      case rel => exact ⟨L ++ [(k : Int)], n, f, A', cc', by rw [List.length_append]; rfl, rfl, hn1, by omega, by omega, by simp; omega, HF2, HO5⟩
    · have hF := HF.out
      have hR2 : L = R := by
        cases f with
        | zero =>
          rw [rowsF, List.append_nil] at hF
          exact hF
        | succ f =>
          rw [rowsF, if_neg (by omega), List.append_nil] at hF
          exact hF
      subst hR2
      have hli : ¬ (k : Int) < (s.size : Int) := by omega
      go_wp2
      go_ret
      exact ⟨A, c, rfl, HO.out.1, HO.out.2⟩
theorem releft_any (s : ByteArray) (a : Nat) (w : World) (hs : s.size ≤ 4000000) (ha : a ≤ s.size) : Calls Tryz.prog 37 #[.string s, .int .i64 (a : Int), .bool false] w fun e w' => e = .returned (.int .i64 (leftE s.data.toList a : Int)) ∧ Below w.heap.size w w' := by
  have C := reback_any s a w hs ha
  generalize leftE s.data.toList a = z at *
  go_enter Tryz.func37, Tryz.ntmps37
  go_wp2_with fail
  with_reducible refine C.mono ?_
  rintro e w1 ⟨rfl, hb1⟩
  go_wp2
  go_ret
  exact ⟨rfl, hb1⟩
theorem lastLt_take {a : Nat} {t : Int} {R : List Int} {i : Nat} (h : i < R.length) : lastLt a t (R.take (i + 1)) = if R[i] < (a : Int) then R[i] else lastLt a t (R.take i) := by
  unfold lastLt
  rw [List.take_succ_eq_append_getElem h, List.foldl_append, List.foldl_cons, List.foldl_nil]
theorem relrow_any (s : ByteArray) (a : Nat) (w : World) (hT : Tabs w) (hs : s.size ≤ 4000000) (ha : a ≤ s.size) : Calls Tryz.prog 37 #[.string s, .int .i64 (a : Int), .bool true] w fun e w' => e = .returned (.int .i64 (lrowE s.data.toList a : Int)) ∧ Below w.heap.size w w' := by
  have C := rows_any s w hT hs
  have hlast := rows_lrow (l := s.data.toList) (a := a) (by rw [ba_len]; exact ha)
  have hlen : (rowsE s.data.toList).length ≤ s.size := by
    have := rowsF_len s.data.toList (s.data.toList.length + 1) 0 (Seam.zero _)
    rw [ba_len] at this
    unfold rowsE
    rw [ba_len]
    omega
  generalize lrowE s.data.toList a = z at *
  generalize rowsE s.data.toList = R at *
  have HL := hid hlast
  clear hlast hT
  go_enter Tryz.func37, Tryz.ntmps37
  go_wp2_with fail
  with_reducible refine C.mono ?_
  rintro e w1 ⟨A, c, rfl, hown, hb1⟩
  have HA := hid (At.of_own hown)
  clear C hown
  go_wp2
  go_loopg [7, 9] R.length (fun gh v7 v9 wr => ∃ (i : Nat) (t : Int), v7 = .int .i64 t ∧ v9 = .int .i64 (i : Int) ∧ i ≤ R.length ∧ R.length - i ≤ gh ∧ Hid (lastLt a 0 (R.take i) = t) ∧ wr = w1)
  case atStart => exact ⟨0, 0, rfl, rfl, by omega, by omega, hid rfl, rfl⟩
  case round =>
    obtain ⟨i, t, rfl, rfl, hi, hgh, HT, rfl⟩ := hrel
    by_cases hlt : i < R.length
    · obtain ⟨g, o, rfl, hg, c0⟩ := HA.out.int hlt
      have hli : (i : Int) < (R.length : Int) := by omega
      have htk := lastLt_take (a := a) (t := 0) hlt
      obtain ⟨r, hr⟩ : ∃ r, R[i]'hlt = r := ⟨_, rfl⟩
      rw [hr] at c0 htk
      by_cases hra : r < (a : Int)
      · rw [if_pos hra] at htk
        have HT2 := hid htk
        clear htk hr
        go_wp2
        go_roundg (R.length - (i + 1))
        case measure => omega
        case rel => exact ⟨i + 1, r, rfl, by go_num, by omega, by omega, HT2, rfl⟩
      · rw [if_neg hra, HT.out] at htk
        have HT2 := hid htk
        clear htk hr
        go_wp2
        go_roundg (R.length - (i + 1))
        case measure => omega
        case rel => exact ⟨i + 1, t, rfl, by go_num, by omega, by omega, HT2, rfl⟩
    · have hie : i = R.length := by omega
      have ht : t = (z : Int) := by rw [← HT.out, hie, List.take_length, HL.out]
      have hli : ¬ (i : Int) < (R.length : Int) := by omega
      subst ht
      go_wp2
      go_ret
      exact ⟨rfl, hb1⟩
theorem reright_any (s : ByteArray) (a : Nat) (w : World) (hs : s.size ≤ 4000000) : Calls Tryz.prog 38 #[.string s, .int .i64 (a : Int), .bool false] w fun e w' => e = .returned (.int .i64 (rightE s.data.toList a : Int)) ∧ Below w.heap.size w w' := by
  have C := renext_any s a w hs
  generalize rightE s.data.toList a = z at *
  go_enter Tryz.func38, Tryz.ntmps38
  go_wp2_with fail
  with_reducible refine C.mono ?_
  rintro e w1 ⟨rfl, hb1⟩
  go_wp2
  go_ret
  exact ⟨rfl, hb1⟩
theorem reword_any (s : ByteArray) (a : Nat) (w : World) (hT : Tabs w) (hs : s.size ≤ 4000000) : Calls Tryz.prog 38 #[.string s, .int .i64 (a : Int), .bool true] w fun e w' => e = .returned (.int .i64 (rwordE s.data.toList a : Int)) ∧ Below w.heap.size w w' := by
  have C := rWord_any s (a : Int) w hT hs
  unfold rwordE
  obtain ⟨⟨kk, is⟩, he⟩ : ∃ z, wordE kd (pcs s.data.toList) (a : Int) = z := ⟨_, rfl⟩
  rw [he] at C ⊢
  unfold ansV at C
  simp only at C ⊢
  clear hT
  cases is with
  | true =>
    rw [if_pos rfl]
    go_enter Tryz.func38, Tryz.ntmps38
    go_wp2_with fail
    with_reducible refine C.mono ?_
    rintro e w1 ⟨rfl, hb1⟩
    go_wp2
    go_ret
    exact ⟨rfl, hb1⟩
  | false =>
    rw [if_neg (by decide)]
    go_enter Tryz.func38, Tryz.ntmps38
    go_wp2_with fail
    with_reducible refine C.mono ?_
    rintro e w1 ⟨rfl, hb1⟩
    go_wp2
    go_ret
    exact ⟨rfl, hb1⟩
end Go.Proofs.YtcfgpmmclijonaaGreatDoor

/- Layer 25, the reference: under, across. -/
namespace Go.Proofs.YtcfgpmmclijonaaGreatDoor
set_option linter.unusedVariables false
set_option linter.unusedSimpArgs false
set_option maxRecDepth 100000
open Go.RowKit Go.Shelf Go.Lib
set_option maxRecDepth 100000
set_option maxHeartbeats 8000000

theorem undF_gen {P : List (Nat × Nat)} {b i0 : Nat} {most : Int} : ∀ (f j m : Nat), toC P i0 + m = toC P j → j ≤ P.length → P.length ≤ f + j → (m : Int) ≤ most →
    j ≤ undF P b most f j m ∧ undF P b most f j m ≤ P.length ∧ (toC P (undF P b most f j m) : Int) ≤ toC P i0 + most ∧ (∀ k, j ≤ k → k < undF P b most f j m → off P k < b) ∧
    (undF P b most f j m = P.length ∨ b ≤ off P (undF P b most f j m) ∨ (toC P i0 : Int) + most < toC P (undF P b most f j m + 1))
  | 0, j, m, hm, hj, hf, hmn => by
    have : j = P.length := by omega
    unfold undF
    exact ⟨Nat.le_refl _, hj, by omega, fun k h1 h2 => by omega, .inl this⟩
  | f + 1, j, m, hm, hj, hf, hmn => by
    unfold undF
    by_cases hjl : j < P.length
    · rw [dif_pos hjl]
      have ht := toC_succ P j hjl
      by_cases hlt : off P j < b
      · rw [if_pos hlt]
        split
        · exact ⟨Nat.le_refl _, hj, by omega, fun k h1 h2 => by omega, .inr (.inr (by omega))⟩
        · have q := undF_gen (b := b) (i0 := i0) (most := most) f (j + 1) (m + wid (P[j]).2) (by omega) hjl (by omega) (by omega)
          refine ⟨by omega, q.2.1, q.2.2.1, fun k h1 h2 => ?_, q.2.2.2.2⟩
          by_cases e : k = j
          · rw [e]; exact hlt
          · exact q.2.2.2.1 k (by omega) h2
      · rw [if_neg hlt]
        exact ⟨Nat.le_refl _, hj, by omega, fun k h1 h2 => by omega, .inr (.inl (by omega))⟩
    · rw [dif_neg hjl]
      exact ⟨Nat.le_refl _, hj, by omega, fun k h1 h2 => by omega, .inl (by omega)⟩
theorem reunder_any (s : ByteArray) (a b : Nat) (most : Int) (w : World) (hs : s.size ≤ 4000000) (ha : Seam s.data.toList a) (hb : b ≤ s.size) (hm0 : 0 ≤ most) (hm : most ≤ 9223372036854775807) :
    Calls Tryz.prog 74 #[.string s, .int .i64 (a : Int), .int .i64 (b : Int), .int .i64 most] w fun e w' => e = .returned (.int .i64 (undE s.data.toList a b most : Int)) ∧ Below w.heap.size w w' := by
  have hl := ba_len s
  obtain ⟨i, hi, rfl⟩ := ha
  unfold undE
  rw [pix_off _ hi]
  have hun := undF_gen (P := pcs s.data.toList) (b := b) (i0 := i) (most := most) (pcs s.data.toList).length i 0 rfl hi (by omega) (by omega)
  have CC := fun j k (w1 : World) => recells_any (s.extract j k) w1 (by rw [ByteArray.size_extract]; omega)
  have CN := fun (k : Nat) w1 => renext_any s k w1 hs
  have CX := fun (j : Nat) (hij : i ≤ j) (hj : j ≤ (pcs s.data.toList).length) => cells_sub s hij hj
  have hnx : ∀ (j : Nat), j < (pcs s.data.toList).length → rightE s.data.toList (off (pcs s.data.toList) j) = off (pcs s.data.toList) (j + 1) := fun j hj => by
    unfold rightE
    rw [next_off hj]
    rfl
  have hos := fun (j : Nat) (hj : j < (pcs s.data.toList).length) => off_strict (pcs_pos s.data.toList) hj
  have hom := fun (j k : Nat) (h : j ≤ k) => off_mono (pcs s.data.toList) h
  have hoe := fun (j : Nat) => off_end s.data.toList j
  have hof := off_full s.data.toList
  have hpl := pcs_len s.data.toList
  have htm := fun (j k : Nat) (h : j ≤ k) (hk : k ≤ (pcs s.data.toList).length) => toC_mono_ (pcs s.data.toList) h hk
  rw [hl] at hof hpl
  simp only [hl] at hoe
  obtain ⟨U, hU⟩ : ∃ U, undF (pcs s.data.toList) b most (pcs s.data.toList).length i 0 = U := ⟨_, rfl⟩
  rw [hU] at hun
  rw [hU]
  clear hU
  have CN2 : ∀ j w1, j < (pcs s.data.toList).length → Calls Tryz.prog 48 #[.string s, .int .i64 (off (pcs s.data.toList) j : Int)] w1 fun e w' => e = .returned (.int .i64 (off (pcs s.data.toList) (j + 1) : Int)) ∧ Below w1.heap.size w1 w' := fun j w1 hj => by
    have q := CN (off (pcs s.data.toList) j) w1
    rw [hnx j hj] at q
    exact q
  clear CN hnx
  generalize pcs s.data.toList = P at *
  have HC := hid CC
  have HN := hid CN2
  have HX := hid CX
  have HOS := hid hos
  have HOM := hid hom
  have HOE := hid hoe
  have HOF := hid hof
  have HTM := hid htm
  have HU := hid hun
  clear CC CN2 CX hos hom hoe hof htm hun
  go_enter Tryz.func74, Tryz.ntmps74
  go_wp2
  go_loopg [9, 10] P.length (fun gh v9 v10 wr => ∃ j t : Nat, v9 = .int .i64 (off P t : Int) ∧ v10 = .int .i64 (off P j : Int) ∧ i ≤ j ∧ j ≤ P.length ∧ P.length - j ≤ gh ∧ t = min j U ∧ Below w.heap.size w wr)
  case atStart => exact ⟨i, i, rfl, rfl, by omega, hi, by omega, by have := HU.out.1; omega, Below.refl _ _⟩
  case round =>
    obtain ⟨j, t, rfl, rfl, hij, hj, hgh, ht, hbr⟩ := hrel
    by_cases hlt : off P j < b
    · have hjl : j < P.length := by
        false_or_by_contra
        have : j = P.length := by omega
        subst this
        have := HOF.out
        omega
      have C1 := HN.out j wr hjl
      have C2 := fun w1 => HC.out (off P i) (off P (j + 1)) w1
      rw [(HX.out (j + 1) (by omega) (by omega)).1] at C2
      have hcm := (HX.out (j + 1) (by omega) (by omega)).2
      have o1 := HOM.out i (j + 1) (by omega)
      have o2 := HOE.out (j + 1)
      have q1 : (off P j : Int) < (b : Int) := by omega
      have q2 : (off P i : Int) ≤ (off P (j + 1) : Int) := by omega
      have q3 : (off P (j + 1) : Int) ≤ (s.size : Int) := by omega
      obtain ⟨h1, h2, h3, h4, h5⟩ := HU.out
      have hdec : ((toC P (j + 1) - toC P i : Nat) : Int) ≤ most ↔ j + 1 ≤ U := by
        constructor
        · intro q
          false_or_by_contra
          have hUj : U ≤ j := by omega
          rcases h5 with h5 | h5 | h5
          · omega
          · have := HOM.out U j hUj
            omega
          · have := HTM.out (U + 1) (j + 1) (by omega) (by omega)
            omega
        · intro q
          have := HTM.out (j + 1) U q h2
          omega
      obtain ⟨d, hd⟩ : ∃ d, toC P (j + 1) - toC P i = d := ⟨_, rfl⟩
      rw [hd] at C2 hdec
      obtain ⟨y, hy⟩ : ∃ z, off P (j + 1) = z := ⟨_, rfl⟩
      obtain ⟨x, hx⟩ : ∃ z, off P j = z := ⟨_, rfl⟩
      obtain ⟨tt, htt⟩ : ∃ z, off P t = z := ⟨_, rfl⟩
      rw [hy] at C1 C2 q2 q3 o1 o2
      rw [hx] at C1 q1
      rw [hx, htt]
      have HY := hid hy
      have HTT := hid htt
      have HC2 := hid C2
      clear h1 h2 h3 h4 h5 hd hy hx htt C2 hcm
      by_cases hdm : (d : Int) ≤ most
      · have hju := hdec.1 hdm
        go_wp2_with fail
        with_reducible refine C1.mono ?_
        rintro e w1 ⟨rfl, hb1⟩
        have C2 := HC2.out w1
        go_wp2_with fail
        with_reducible refine C2.mono ?_
        rintro e w2 ⟨rfl, hb2⟩
        have hb3 := (hbr.trans (hb1.mono hbr.size)).trans (hb2.mono (hbr.trans (hb1.mono hbr.size)).size)
        go_wp2
        go_roundg (P.length - (j + 1))
        case measure => omega
        case rel => exact ⟨j + 1, j + 1, by rw [HY.out], by rw [HY.out], by omega, by omega, by omega, by omega, hb3⟩
      · have hju : ¬ j + 1 ≤ U := fun h => hdm (hdec.2 h)
        go_wp2_with fail
        with_reducible refine C1.mono ?_
        rintro e w1 ⟨rfl, hb1⟩
        have C2 := HC2.out w1
        go_wp2_with fail
        with_reducible refine C2.mono ?_
        rintro e w2 ⟨rfl, hb2⟩
        have hb3 := (hbr.trans (hb1.mono hbr.size)).trans (hb2.mono (hbr.trans (hb1.mono hbr.size)).size)
        go_wp2
        go_roundg (P.length - (j + 1))
        case measure => omega
        case rel => exact ⟨j + 1, t, by rw [HTT.out], by rw [HY.out], by omega, by omega, by omega, by omega, hb3⟩
    · have htU : t = U := by
        obtain ⟨h1, h2, h3, h4, h5⟩ := HU.out
        have : U ≤ j := by
          false_or_by_contra
          exact hlt (h4 j hij (by omega))
        omega
      subst htU
      clear ht
      have q1 : ¬ (off P j : Int) < (b : Int) := by omega
      obtain ⟨x, hx⟩ : ∃ z, off P j = z := ⟨_, rfl⟩
      rw [hx] at q1
      rw [hx]
      clear hlt hx
      go_wp2
      go_ret
      exact ⟨rfl, hbr⟩
theorem reacross_up (s : ByteArray) (x : Nat) (w : World) (hs : s.size ≤ 4000000) (hx : x ≤ s.size) :
    Calls Tryz.prog 56 #[.string s, .int .i64 (x : Int), .int .i64 (-1)] w fun e w' => e = .returned (.int .i64 ((if lnA s x = 0 then 0 else acrossE s x (lnA s x - 1) : Nat) : Int)) ∧ Below w.heap.size w w' := by
  have CL := fun w1 => reline_any s x w1 hs hx
  have hAx := (lnA_eq hx).2.1
  unfold acrossE
  obtain ⟨A, hA⟩ : ∃ A, lnA s x = A := ⟨_, rfl⟩
  obtain ⟨B, hB⟩ : ∃ A, lnB s x = A := ⟨_, rfl⟩
  rw [hA, hB] at CL
  rw [hA] at hAx
  rw [hA]
  have hzx : (s.extract A x).size ≤ 4000000 := by rw [ByteArray.size_extract]; omega
  have CC := fun w1 => recells_any (s.extract A x) w1 hzx
  have hT2 := total_le (pcs (s.extract A x).data.toList)
  have hpl := pcs_len (s.extract A x).data.toList
  rw [ba_len] at hpl
  obtain ⟨T, hTT⟩ : ∃ z, total (pcs (s.extract A x).data.toList) = z := ⟨_, rfl⟩
  rw [hTT] at CC hT2
  rw [hTT]
  have q5 : (A : Int) ≤ (x : Int) := by omega
  have q6 : (x : Int) ≤ (s.size : Int) := by omega
  have ha : A - 1 ≤ s.size := by omega
  have CL2 := fun w1 => reline_any s (A - 1) w1 hs ha
  have s1 := (lnA_eq ha).2.seam
  have s2 := (lnB_eq ha).2.2.1
  rw [ba_len] at s2
  obtain ⟨A2, hA2⟩ : ∃ z, lnA s (A - 1) = z := ⟨_, rfl⟩
  obtain ⟨B2, hB2'⟩ : ∃ z, lnB s (A - 1) = z := ⟨_, rfl⟩
  rw [hA2, hB2'] at CL2
  rw [hA2] at s1
  rw [hB2'] at s2
  rw [hA2, hB2']
  have CU := fun w1 => reunder_any s A2 B2 (T : Int) w1 hs s1 s2 (by omega) (by omega)
  obtain ⟨U, hU⟩ : ∃ z, undE s.data.toList A2 B2 (T : Int) = z := ⟨_, rfl⟩
  rw [hU] at CU
  rw [hU]
  have HCU := hid CU
  have HCC := hid CC
  have HCL2 := hid CL2
  clear CC CU s1 s2 hT2 hpl hTT hU hA2 hB2' hzx hA hB CL2
  by_cases hA0 : A = 0
  · rw [if_pos hA0]
    subst hA0
    go_enter Tryz.func56, Tryz.ntmps56
    go_wp2_with fail
    with_reducible refine (CL _).mono ?_
    rintro e w5 ⟨rfl, hb5⟩
    have CC := HCC.out w5
    clear CL
    go_wp2_with fail
    with_reducible refine CC.mono ?_
    rintro e w6 ⟨rfl, hb6⟩
    go_wp2
    go_ret
    exact ⟨rfl, hb5.trans (hb6.mono hb5.size)⟩
  · rw [if_neg hA0]
    have CL2 := HCL2.out
    have hc : ((A - 1 : Nat) : Int) = (A : Int) - 1 := by omega
    rw [hc] at CL2
    have q1 : ((A : Int) == 0) = false := beq_eq_false_iff_ne.2 (by omega)
    have q2 : ¬ (A : Int) = 0 := by omega
    clear HCL2 hc
    go_enter Tryz.func56, Tryz.ntmps56
    go_wp2_with fail
    with_reducible refine (CL _).mono ?_
    rintro e w5 ⟨rfl, hb5⟩
    have CC := HCC.out w5
    clear CL
    go_wp2_with fail
    with_reducible refine CC.mono ?_
    rintro e w6 ⟨rfl, hb6⟩
    have hB6 := hb5.trans (hb6.mono hb5.size)
    clear CC hb5 hb6
    go_wp2_with fail
    with_reducible refine (CL2 _).mono ?_
    rintro e w7 ⟨rfl, hb7⟩
    have hB7 := hB6.trans (hb7.mono hB6.size)
    have CU := HCU.out w7
    clear CL2 hb7 hB6
    go_wp2_with fail
    with_reducible refine CU.mono ?_
    rintro e w8 ⟨rfl, hb8⟩
    go_wp2
    go_ret
    exact ⟨rfl, hB7.trans (hb8.mono hB7.size)⟩
theorem reacross_down (s : ByteArray) (x : Nat) (w : World) (hs : s.size ≤ 4000000) (hx : x ≤ s.size) :
    Calls Tryz.prog 56 #[.string s, .int .i64 (x : Int), .int .i64 1] w fun e w' => e = .returned (.int .i64 ((if lnB s x = s.size then lnB s x else acrossE s x (lnB s x + 1) : Nat) : Int)) ∧ Below w.heap.size w w' := by
  have CL := fun w1 => reline_any s x w1 hs hx
  have hAx := (lnA_eq hx).2.1
  have hnx := fun h => lnB_next hx h
  unfold acrossE
  obtain ⟨A, hA⟩ : ∃ A, lnA s x = A := ⟨_, rfl⟩
  obtain ⟨B, hB⟩ : ∃ A, lnB s x = A := ⟨_, rfl⟩
  rw [hA, hB] at CL
  rw [hA] at hAx
  rw [hB] at hnx
  rw [hA, hB]
  have hzx : (s.extract A x).size ≤ 4000000 := by rw [ByteArray.size_extract]; omega
  have CC := fun w1 => recells_any (s.extract A x) w1 hzx
  have hT2 := total_le (pcs (s.extract A x).data.toList)
  have hpl := pcs_len (s.extract A x).data.toList
  rw [ba_len] at hpl
  obtain ⟨T, hTT⟩ : ∃ z, total (pcs (s.extract A x).data.toList) = z := ⟨_, rfl⟩
  rw [hTT] at CC hT2
  rw [hTT]
  have q5 : (A : Int) ≤ (x : Int) := by omega
  have q6 : (x : Int) ≤ (s.size : Int) := by omega
  have hT3 : (T : Int) ≤ 9000000 := by omega
  have HCC := hid CC
  clear CC hT2 hpl hTT hzx hA hB
  by_cases hB0 : B = s.size
  · rw [if_pos hB0]
    subst hB0
    go_enter Tryz.func56, Tryz.ntmps56
    go_wp2_with fail
    with_reducible refine (CL _).mono ?_
    rintro e w5 ⟨rfl, hb5⟩
    have CC := HCC.out w5
    clear CL
    go_wp2_with fail
    with_reducible refine CC.mono ?_
    rintro e w6 ⟨rfl, hb6⟩
    go_wp2
    go_ret
    exact ⟨rfl, hb5.trans (hb6.mono hb5.size)⟩
  · rw [if_neg hB0]
    have ha : B + 1 ≤ s.size := hnx hB0
    have CL2 := fun w1 => reline_any s (B + 1) w1 hs ha
    have s1 := (lnA_eq ha).2.seam
    have s2 := (lnB_eq ha).2.2.1
    rw [ba_len] at s2
    obtain ⟨A2, hA2⟩ : ∃ z, lnA s (B + 1) = z := ⟨_, rfl⟩
    obtain ⟨B2, hB2'⟩ : ∃ z, lnB s (B + 1) = z := ⟨_, rfl⟩
    rw [hA2, hB2'] at CL2
    rw [hA2] at s1
    rw [hB2'] at s2
    rw [hA2, hB2']
    have CU := fun w1 => reunder_any s A2 B2 (T : Int) w1 hs s1 s2 (by omega) (by omega)
    obtain ⟨U, hU⟩ : ∃ z, undE s.data.toList A2 B2 (T : Int) = z := ⟨_, rfl⟩
    rw [hU] at CU
    rw [hU]
    have HCU := hid CU
    have hc : ((B + 1 : Nat) : Int) = (B : Int) + 1 := by omega
    rw [hc] at CL2
    have q1 : ((B : Int) == (s.size : Int)) = false := beq_eq_false_iff_ne.2 (by omega)
    have q2 : ¬ (B : Int) = (s.size : Int) := by omega
    clear CU s1 s2 hU hA2 hB2' hc
    go_enter Tryz.func56, Tryz.ntmps56
    go_wp2_with fail
    with_reducible refine (CL _).mono ?_
    rintro e w5 ⟨rfl, hb5⟩
    have CC := HCC.out w5
    clear CL
    go_wp2_with fail
    with_reducible refine CC.mono ?_
    rintro e w6 ⟨rfl, hb6⟩
    have hB6 := hb5.trans (hb6.mono hb5.size)
    clear CC hb5 hb6
    go_wp2_with fail
    with_reducible refine (CL2 _).mono ?_
    rintro e w7 ⟨rfl, hb7⟩
    have hB7 := hB6.trans (hb7.mono hB6.size)
    have CU := HCU.out w7
    clear CL2 hb7 hB6
    go_wp2_with fail
    with_reducible refine CU.mono ?_
    rintro e w8 ⟨rfl, hb8⟩
    go_wp2
    go_ret
    exact ⟨rfl, hB7.trans (hb8.mono hB7.size)⟩
end Go.Proofs.YtcfgpmmclijonaaGreatDoor
