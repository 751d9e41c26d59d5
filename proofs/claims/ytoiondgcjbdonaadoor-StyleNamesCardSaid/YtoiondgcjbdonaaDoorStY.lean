/- Layer 5: rules but the one with a number: the plain law and the walk of 'without'. -/
import Derived.Test.YtoiondgcjbdonaaDoorStX
namespace Go.Proofs.YtoiondgcjbdonaaDoor
set_option linter.unusedVariables false
set_option linter.unusedSimpArgs false
set_option maxRecDepth 100000
open Go.RowKit Go.Shelf Go.Lib Go.Sort

theorem rus_one (l : List Ru) : ∀ v ∈ rus l, v.oneCell' = true := by
  induction l with
  | nil => intro v h; cases h
  | cons r l ih =>
    intro v h
    simp only [rus, List.mem_append] at h
    rcases h with h | h
    · simp only [ruC, lkC, List.mem_cons, List.mem_nil_iff, or_false] at h
      rcases h with rfl | rfl | rfl | rfl | rfl | rfl | rfl | rfl | rfl | rfl | rfl | rfl | rfl | rfl
      all_goals simp [Value.oneCell']
    · exact ih v h
theorem rus_take (L : List Ru) (k : Nat) : rus (L.take k) = (rus L).take (k * 14) := by
  induction L generalizing k with
  | nil => simp [rus]
  | cons r L ih =>
    cases k with
    | zero => simp [rus]
    | succ k =>
      simp only [List.take_succ_cons, rus, ih]
      rw [show (k + 1) * 14 = (ruC r).length + k * 14 by rw [ruC_len]; omega, List.take_length_add_append]
theorem rus_drop (L : List Ru) (k : Nat) : rus (L.drop k) = (rus L).drop (k * 14) := by
  induction L generalizing k with
  | nil => simp [rus]
  | cons r L ih =>
    cases k with
    | zero => simp
    | succ k =>
      simp only [List.drop_succ_cons, rus, ih]
      rw [show (k + 1) * 14 = (ruC r).length + k * 14 by rw [ruC_len]; omega, List.drop_length_add_append]
theorem At.takeR {B : Nat} {w : World} {A : Option Addr} {L : List Ru} (h : At B w A (rus L)) (k : Nat) : At B w A (rus (L.take k)) := by
  rw [rus_take]; exact h.take _
theorem At.dropR {B : Nat} {w : World} {g o : Nat} {L : List Ru} (h : At B w (some ⟨g, o, none⟩) (rus L)) (k : Nat) : At B w (some ⟨g, o + k * 14, none⟩) (rus (L.drop k)) := by
  rw [rus_drop]
  intro hn
  obtain ⟨g', o', hA, hg, hc⟩ := h (by rw [List.length_drop] at hn; omega)
  cases hA
  refine ⟨g, o + k * 14, rfl, hg, fun j v hj => ?_⟩
  rw [List.getElem?_drop] at hj
  rw [Nat.add_assoc]
  exact hc _ _ hj

/-! ### The plain law -/
theorem keyAt_erase {L : List Ru} {a : Nat} (ha : a < L.length) (i : Nat) (hi : i < L.length - 1) : keyAt (L.eraseIdx a) i = keyAt L (unsh a i) := by
  unfold keyAt unsh
  rw [List.getElem?_eraseIdx]
  split <;> rfl
theorem get_sh {L : List Ru} {a i : Nat} (hne : i ≠ a) : (L.eraseIdx a)[sh a i]? = L[i]? := by
  rw [List.getElem?_eraseIdx]
  unfold sh
  by_cases h : i < a
  · rw [if_pos h, if_pos h]
  · rw [if_neg h, if_neg (by omega)]
    congr 1
    omega
theorem okAll_erase {L : List Ru} (h : okAll L = true) (a : Nat) : okAll (L.eraseIdx a) = true := by
  unfold okAll at h ⊢
  rw [List.all_eq_true] at h ⊢
  exact fun x hx => h x (List.mem_of_mem_eraseIdx hx)
theorem chk_erase {L : List Ru} (h : chkE L = 0) (a : Nat) : chkE (L.eraseIdx a) = 0 := by
  obtain ⟨h1, h2⟩ := chk_ok h
  have hl := List.length_eraseIdx_le L a
  unfold chkE
  rw [if_neg (by omega), if_pos (okAll_erase h2 a)]
theorem ok_norm {L : List Ru} (h : okAll L = true) {a : Nat} (ha : a < L.length) : L[a].look.has ≤ 15 ∧ L[a].look.norm = L[a].look := by
  have := (List.all_eq_true.1 h) L[a] (List.getElem_mem ha)
  unfold okR mayL at this
  simp only [Bool.and_eq_true, decide_eq_true_eq] at this
  have h1 := this.2.2.2.2.2.1
  have h2 := this.2.2.2.2.2.2.2.2
  exact ⟨h1, by rw [← under_none (by omega)]; exact h2.symm⟩
/-- The strongest rule's look over that of the others, if it holds; else that of the others. -/
theorem peel {L : List Ru} (hin : ∀ r ∈ L, r.In) (hok : okAll L = true) (h0 : 0 < L.length) {a : Nat} (ha : a < L.length) (hlast : (ordN L)[L.length - 1]? = some a) (kind : Nat) (cls : List UInt8) (st : Nat) :
    foldO (fR L) (hR L kind cls st) (ordN L) Lk.none =
      if holdsL L[a] kind cls st then underL L[a].look (foldO (fR (L.eraseIdx a)) (hR (L.eraseIdx a) kind cls st) (ordN (L.eraseIdx a)) Lk.none) else foldO (fR (L.eraseIdx a)) (hR (L.eraseIdx a) kind cls st) (ordN (L.eraseIdx a)) Lk.none := by
  have hl := ordN_len L
  have hne : ordN L ≠ [] := by intro h; rw [h] at hl; simp at hl; omega
  have hsp : ordN L = (ordN L).dropLast ++ [a] := by
    have e := List.dropLast_concat_getLast hne
    have : (ordN L).getLast hne = a := by
      rw [List.getLast_eq_getElem]
      have := (List.getElem?_eq_some_iff.1 hlast).2
      rw [← this]
      congr 1
      rw [hl]
    rw [this] at e
    exact e.symm
  have hd := ordL_drop (key := keyAt L) (n := L.length) h0 (a := a) hsp
  have hle : (L.eraseIdx a).length = L.length - 1 := by rw [List.length_eraseIdx]; rw [if_pos ha]
  have hord : ordN (L.eraseIdx a) = (ordN L).dropLast.map (sh a) := by
    unfold ordN
    rw [hle, ← hd]
    exact ordL_congr fun i hi => keyAt_erase ha i hi
  have hmem : ∀ i ∈ (ordN L).dropLast, i < L.length ∧ i ≠ a := by
    intro i hi
    have hnd : (ordN L).Nodup := (List.mergeSort_perm (List.range L.length) (ordLe (keyAt L))).nodup_iff.2 List.nodup_range
    refine ⟨ordN_mem i (List.dropLast_subset _ hi), ?_⟩
    rw [hsp, List.nodup_append] at hnd
    exact hnd.2.2 i hi a (by simp)
  rw [hord]
  rw [foldO_map (f := fR L) (h := hR L kind cls st) (sh a) (fun i hi => by unfold fR; rw [get_sh (hmem i hi).2]) (fun i hi => by unfold hR; rw [get_sh (hmem i hi).2])]
  conv => lhs; rw [hsp]
  rw [foldO_snoc, hR_get ha, fR_get ha]
  have hn := ok_norm hok ha
  have h8 : ∀ i ∈ (ordN L).dropLast, (fR L i).has < 256 := fun i hi => by rw [fR_get (hmem i hi).1]; exact (hin _ (List.getElem_mem (hmem i hi).1)).2.2.1.1
  split
  · rw [none_under (by omega), hn.2]
    exact foldO_over h8 hn.1 hn.2
  · rfl

/-! ### The walk -/
theorem append_rules {ops : Array Oper} {rest : List Oper} {o : Oper} {a : Act} {Q : Exit → Act → World → Prop} {w : World} (hgd : o.guard = none) (s x : Operand) (ho : o.op = .call { callee := .builtin .append, args := #[s, x], argTypes := #[22, 22] }) (base : Nat) (v : Value) (M : List Ru) (A : Option Addr) (m c B : Nat) (K : List Ru)
    (hs : a.eval s = v) (hx : a.eval x = .slice A m c) (hnil : A = none → m = 0 ∧ c = 0) (hown : w.ownsRow base 46 14 v M.length (rus M)) (hy : At B w A (rus K)) (hm : K.length = m) (hb : M.length + m ≤ 1000000) (hbase : base ≤ w.heap.size)
    (h : ∀ v' w', w'.ownsRow base 46 14 v' (M ++ K).length (rus (M ++ K)) → w.grownBy w' v.ownBlock → wpList Tryd.prog ops Q rest (a.put o.dst v') w') : wpList Tryd.prog ops Q (o :: rest) a w := by
  obtain ⟨i0, hi, hz0, hz1, hz2⟩ := info_parts info_rule
  refine append_many Tryd.underlying22 hi hz0 hz1 hz2 (by kernel_rfl) (by omega) hgd s x ho base v M.length (rus M) A m c B (rus K) hs hx hnil hown hy (by rw [rus_len, hm]) (rus_one _) (by unfold maxLen; omega) (by omega) hbase (fun v' w' h4 h5 => h v' w' (by rw [rus_append, List.length_append, hm]; exact h4) h5)
def RulesPost (L : List Ru) (w : World) (e : Ending) (w' : World) : Prop := ∃ A c, e = .returned (.slice A L.length c) ∧ At w'.heap.size w' A (rus L) ∧ Below w.heap.size w w'
theorem erase_split (L : List Ru) (a : Nat) : L.take a ++ L.drop (a + 1) = L.eraseIdx a := (List.eraseIdx_eq_take_drop_succ L a).symm
set_option maxHeartbeats 2000000 in
set_option maxRecDepth 100000 in
theorem without_any (B : Nat) (A : Option Addr) (c : Nat) (L : List Ru) (w : World) (hA : At B w A (rus L)) (hB : B ≤ w.heap.size) (hlc : L.length ≤ c) (hcm : c ≤ maxLen) (h60 : L.length ≤ 60) (a : Nat) (ha : a < L.length) :
    Calls Tryd.prog 24 #[.slice A L.length c, .int .i64 (a : Int)] w (RulesPost (L.eraseIdx a) w) := by
  obtain ⟨g, o, rfl, hg, hc⟩ := hA (by rw [rus_len]; omega)
  have hA := hid hA
  have h0 : w.ownsRow w.heap.size 46 14 (.slice none 0 0) ([] : List Ru).length (rus []) := ⟨rfl, .inl ⟨rfl, rfl⟩⟩
  have hci : (L.length : Int) ≤ (c : Int) := by omega
  have hai : (a : Int) < (L.length : Int) := by omega
  unfold maxLen at hcm
  have T1 : (L.take a).length = a := by rw [List.length_take]; omega
  have T2 : ([] : List Ru).length + a ≤ 1000000 := by simp; omega
  have hac : (a : Int) ≤ (c : Int) := by omega
  have hac1 : (a : Int) + 1 ≤ (c : Int) := by omega
  have hal1 : (a : Int) + 1 ≤ (L.length : Int) := by omega
  have T1' := hid T1
  have T2' := hid T2
  clear T1 T2
  by_cases hcc : c = a + 1
  · obtain rfl : c = a + 1 := hcc
    obtain ⟨n, hn⟩ : ∃ n, L.length = n := ⟨_, rfl⟩
    rw [hn] at hlc h60 ha hci hai hal1 ⊢
    obtain rfl : n = a + 1 := by omega
    have T3 : (L.drop (a + 1)).length = 0 := by rw [List.length_drop, hn]; omega
    have T4 : (L.take a).length + 0 ≤ 1000000 := by rw [T1'.out]; omega
    have T3' := hid T3
    have T4' := hid T4
    have HN := hid hn
    clear T3 T4 hn hlc ha hci hai
    go_enter Tryd.func24, Tryd.ntmps24
    go_wp2_with (first | (at_builtin; refine append_rules rfl (.tmp 6) (.tmp 9) rfl w.heap.size (.slice none 0 0) [] (some ⟨g, o, none⟩) a (a + 1) B (L.take a) rfl rfl (fun h => by cases h) h0 (hA.out.takeR a) T1'.out T2'.out (Nat.le_refl _) ?_))
    intro v1 w1 hown1 hgr1
    have hown1 : w1.ownsRow w.heap.size 46 14 v1 (L.take a).length (rus (L.take a)) := by simpa using hown1
    have hb1 : Below w.heap.size w w1 := (Below.refl _ _).grown hgr1 (Nat.le_refl _) (fun k hk => by cases hk)
    have hA2 : At B w1 (some ⟨g, o, none⟩) (rus (L.drop (a + 1))) := by
      intro h
      rw [rus_len, T3'.out] at h
      omega
    have HH := hid (And.intro hown1 (And.intro hb1 hA2))
    clear hown1 hgr1 hb1 hA2
    go_wp2_with (first | (at_builtin; refine append_rules rfl (.tmp 11) (.tmp 15) rfl w.heap.size v1 (L.take a) (some ⟨g, o, none⟩) 0 0 B (L.drop (a + 1)) rfl rfl (fun h => by cases h) HH.out.1 HH.out.2.2 T3'.out T4'.out HH.out.2.1.size ?_))
    intro v2 w2 hown2 hgr2
    have hown2 : w2.ownsRow w.heap.size 46 14 v2 (L.eraseIdx a).length (rus (L.eraseIdx a)) := by rw [← erase_split]; simpa using hown2
    obtain ⟨A2, c2, rfl⟩ := own_shape hown2
    have hb2 : Below w.heap.size w w2 := HH.out.2.1.grown hgr2 HH.out.2.1.size (own_ge HH.out.1)
    have HH2 := hid (And.intro hown2 hb2)
    clear hown2 hgr2 hb2
    go_wp2
    go_ret
    exact ⟨A2, c2, rfl, At.of_own HH2.out.1, HH2.out.2⟩
  · have hcc2 : ¬ (a + 1 = c) := fun h => hcc h.symm
    have T3 : (L.drop (a + 1)).length = L.length - (a + 1) := List.length_drop
    have T4 : (L.take a).length + (L.length - (a + 1)) ≤ 1000000 := by rw [T1'.out]; omega
    have T3' := hid T3
    have T4' := hid T4
    clear T3 T4
    go_enter Tryd.func24, Tryd.ntmps24
    go_wp2_with (first | (at_builtin; refine append_rules rfl (.tmp 6) (.tmp 9) rfl w.heap.size (.slice none 0 0) [] (some ⟨g, o, none⟩) a c B (L.take a) rfl rfl (fun h => by cases h) h0 (hA.out.takeR a) T1'.out T2'.out (Nat.le_refl _) ?_))
    intro v1 w1 hown1 hgr1
    have hown1 : w1.ownsRow w.heap.size 46 14 v1 (L.take a).length (rus (L.take a)) := by simpa using hown1
    have hb1 : Below w.heap.size w w1 := (Below.refl _ _).grown hgr1 (Nat.le_refl _) (fun k hk => by cases hk)
    have hA2 : At B w1 (some ⟨g, o + (a + 1) * 14, none⟩) (rus (L.drop (a + 1))) := (hA.out.dropR (a + 1)).below (hb1.mono hB)
    have HH := hid (And.intro hown1 (And.intro hb1 hA2))
    clear hown1 hgr1 hb1 hA2
    go_wp2_with (first | (at_builtin; refine append_rules rfl (.tmp 11) (.tmp 15) rfl w.heap.size v1 (L.take a) (some ⟨g, o + (a + 1) * 14, none⟩) (L.length - (a + 1)) (c - (a + 1)) B (L.drop (a + 1)) rfl rfl (fun h => by cases h) HH.out.1 HH.out.2.2 T3'.out T4'.out HH.out.2.1.size ?_))
    intro v2 w2 hown2 hgr2
    have hown2 : w2.ownsRow w.heap.size 46 14 v2 (L.eraseIdx a).length (rus (L.eraseIdx a)) := by rw [← erase_split]; simpa using hown2
    obtain ⟨A2, c2, rfl⟩ := own_shape hown2
    have hb2 : Below w.heap.size w w2 := HH.out.2.1.grown hgr2 HH.out.2.1.size (own_ge HH.out.1)
    have HH2 := hid (And.intro hown2 hb2)
    clear hown2 hgr2 hb2
    go_wp2
    go_ret
    exact ⟨A2, c2, rfl, At.of_own HH2.out.1, HH2.out.2⟩
end Go.Proofs.YtoiondgcjbdonaaDoor
