/- Layer 8: plain: the closed sentence. -/
import Derived.Test.YtnkojoajcdhngaaDoorTrAi
import Derived.Lib.ValidLaws
namespace Go.Proofs.YtnkojoajcdhngaaDoor
set_option linter.unusedVariables false
set_option linter.unusedSimpArgs false
set_option maxRecDepth 100000
open Go.RowKit
set_option maxRecDepth 100000
set_option maxHeartbeats 4000000

theorem valid_wd : ∀ n : Nat, Lib.validD (List.replicate n 97) = true
  | 0 => Lib.validD_nil
  | n + 1 => by
    rw [List.replicate_succ, Lib.validD_cons _ _ (by decide)]
    exact valid_wd n
theorem okT_wd (n : Nat) (m : Int) : okT (wdB n) m = decide ((n : Int) ≤ m) := by
  unfold okT
  rw [wdB_size]
  have : Lib.validD (wdB n).data.toList = true := by
    unfold wdB
    rw [List.toList_toArray]
    exact valid_wd n
  rw [this, Bool.and_true]
theorem okT_nil (m : Int) (h : 0 ≤ m) : okT ⟨#[]⟩ m = true := by
  unfold okT
  have : Lib.validD (ByteArray.mk #[]).data.toList = true := Lib.validD_nil
  rw [this, Bool.and_true]
  exact decide_eq_true h
theorem nd0e_ok (k : Int) (ks : List Int) (h0 : 0 ≤ k) (h1 : k ≤ 255) (h : ks.length ≤ 9000000000000) : (nd0 k ⟨#[]⟩ ks).ok :=
  ⟨⟨h0, h1⟩, show (ByteArray.mk #[]).size ≤ 9223372036854775807 by decide, show (ByteArray.mk #[]).size ≤ 9223372036854775807 by decide, show (ByteArray.mk #[]).size ≤ 9223372036854775807 by decide, fun t ht => (by cases ht), show ([] : List Wr).length ≤ 9000000000000000 by decide, h⟩
theorem nd0_may (k : Int) (ks : List Int) (h0 : 1 ≤ k) (h1 : k ≤ 10) : mayB (nd0 k ⟨#[]⟩ ks) = decide (ks.length ≤ roomE k) := by
  unfold mayB nodeB
  show (((decide (1 ≤ k) && decide (k ≤ 10)) && (okT ⟨#[]⟩ 64 && (okT ⟨#[]⟩ 64 && okT ⟨#[]⟩ 65536)) && _ && _ && _) && _) = _
  rw [okT_nil 64 (by omega), okT_nil 65536 (by omega), decide_eq_true h0, decide_eq_true h1]
  have e : allW (nd0 k ⟨#[]⟩ ks).wraps = true := rfl
  rw [e]
  rfl
theorem rowL_ok (n : Nat) (hn : n ≤ 100000) : ∀ x ∈ rowL n, x.ok := by
  intro x hx
  simp only [rowL, List.mem_cons] at hx
  rcases hx with rfl | hx
  · exact nd0e_ok 4 _ (by omega) (by omega) (by rw [kidR_len]; omega)
  · rw [List.eq_of_mem_replicate hx]
    exact nd0e_ok 9 _ (by omega) (by omega) (by decide)
theorem deepL_ok (n : Nat) : ∀ x ∈ deepL n, x.ok := by
  intro x hx
  simp only [deepL, List.mem_map] at hx
  obtain ⟨i, _, rfl⟩ := hx
  unfold deepN
  refine nd0e_ok 4 _ (by omega) (by omega) ?_
  split <;> simp
theorem mem_kidR (n : Nat) (k : Int) : k ∈ kidR n ↔ 1 ≤ k ∧ k ≤ n := by
  simp only [kidR, List.mem_map, List.mem_range]
  constructor
  · rintro ⟨j, hj, rfl⟩
    omega
  · rintro ⟨h1, h2⟩
    exact ⟨(k - 1).toNat, by omega, by omega⟩
theorem kidR_nodup (n : Nat) : (kidR n).Nodup := by
  unfold kidR
  rw [List.nodup_iff_pairwise_ne, List.pairwise_map]
  exact (List.nodup_iff_pairwise_ne.1 List.nodup_range).imp fun hab e => hab (by omega)
theorem ppK_up (N : Nat) : ∀ (ks : List Int) (U D : List Int), (∀ k ∈ ks, 0 < k ∧ k < N) → ks.Nodup → (∀ k ∈ ks, D.getD k.toNat 0 = 0) → D.length = N → D.getD 0 0 = 1 →
    ∃ U' D', ppK N 0 ks U D = some (U', D') ∧ ∀ j : Nat, D'.getD j 0 = if (j : Int) ∈ ks then 2 else D.getD j 0
  | [], U, D, _, _, _, _, _ => ⟨U, D, rfl, fun j => by simp⟩
  | k :: ks, U, D, h1, h2, h3, h4, h5 => by
    obtain ⟨a1, a2⟩ := h1 k (by simp)
    have a3 := h3 k (by simp)
    rw [List.nodup_cons] at h2
    have hset : ∀ j : Nat, (D.set k.toNat (D.getD 0 0 + 1)).getD j 0 = if (j : Int) = k then 2 else D.getD j 0 := fun j => by
      rw [getD_set, h5]
      by_cases e : k.toNat = j
      · rw [if_pos ⟨e, by omega⟩, if_pos (by omega)]
        rfl
      · rw [if_neg (fun x => e x.1), if_neg (by omega)]
    obtain ⟨U', D', e1, e2⟩ := ppK_up N ks (U.set k.toNat 0) (D.set k.toNat (D.getD 0 0 + 1)) (fun q hq => h1 q (by simp [hq])) h2.2 (fun q hq => by
      rw [hset, if_neg (fun e => h2.1 (by
        have : q = k := by have := (h1 q (by simp [hq])).1; omega
        rw [← this]; exact hq))]
      exact h3 q (by simp [hq])) (by rw [List.length_set, h4]) (by rw [hset, if_neg (by omega)]; exact h5)
    refine ⟨U', D', ?_, fun j => ?_⟩
    · rw [ppK, if_neg (by omega)]
      exact e1
    · rw [e2, hset]
      by_cases e : (j : Int) = k
      · rw [if_pos e]
        simp [e]
      · rw [if_neg e]
        simp [e]
theorem ppF_gap (N : Nat) : ∀ (m i : Nat) (U D : List Int), (∀ j : Nat, i ≤ j → j < i + m → D.getD j 0 = 2) → ppF N i (List.replicate m ndG) U D = some (U, D)
  | 0, _, _, _, _ => rfl
  | m + 1, i, U, D, h => by
    have h0 := h i (by omega) (by omega)
    rw [List.replicate_succ, ppF, h0, if_neg (by
      have : mayB ndG = true := by unfold ndG; rw [nd0_may 9 _ (by omega) (by omega)]; rfl
      rw [this]
      simp)]
    show ppF N (i + 1) (List.replicate m ndG) U D = _
    exact ppF_gap N m (i + 1) U D fun j h1 h2 => h j (by omega) (by omega)
theorem rowL_chk (n : Nat) (hn : n ≤ 1023) : chkB (rowL n) = true := by
  unfold chkB parE
  rw [rowL_len, if_neg (by omega)]
  have hD0 : ((List.replicate (n + 1) (0 : Int)).set 0 1).getD 0 0 = 1 := by rw [getD_set, if_pos ⟨rfl, by simp⟩]
  have hDj : ∀ j : Nat, 0 < j → ((List.replicate (n + 1) (0 : Int)).set 0 1).getD j 0 = 0 := fun j hj => by
    rw [getD_set, if_neg (by omega)]
    simp only [List.getD_eq_getElem?_getD, List.getElem?_replicate]
    split <;> rfl
  obtain ⟨U', D', e1, e2⟩ := ppK_up (n + 1) (kidR n) ((List.replicate (n + 1) 0).set 0 (-1)) ((List.replicate (n + 1) 0).set 0 1) (fun k hk => by
    have := (mem_kidR n k).1 hk
    omega) (kidR_nodup n) (fun k hk => hDj _ (by have := (mem_kidR n k).1 hk; omega)) (by simp) hD0
  have hm : mayB (nd0 4 ⟨#[]⟩ (kidR n)) = true := by
    rw [nd0_may 4 _ (by omega) (by omega), kidR_len]
    exact decide_eq_true (show n ≤ 1024 by omega)
  unfold rowL
  rw [ppF, hD0, hm, if_neg (by simp)]
  show ((ppK (n + 1) 0 (kidR n) _ _).bind _).isSome = true
  rw [e1]
  show (ppF (n + 1) 1 (List.replicate n ndG) U' D').isSome = true
  rw [ppF_gap (n + 1) n 1 U' D' (fun j h1 h2 => by rw [e2, if_pos ((mem_kidR n j).2 (by omega))])]
  rfl
theorem rowL_many : chkC (rowL 1024) = 6 := by
  have h : parE (rowL 1024) = none := by
    unfold parE
    rw [rowL_len, if_pos (by omega)]
  unfold chkC chkB
  rw [h]
  rfl
theorem rowL_1023 : chkC (rowL 1023) = 0 := by
  unfold chkC
  rw [rowL_chk 1023 (by omega)]
  rfl
theorem deepL_64 : chkC (deepL 64) = 0 := by kernel_rfl
theorem deepL_65 : chkC (deepL 65) = 6 := by kernel_rfl
theorem put_many : putE (rowL 1023) (rowL 0) 0 0 = ([], 4) := by
  unfold putE
  have h0 : askC (rowL 1023) [0] = 0 := by
    unfold askC
    rw [rowL_chk 1023 (by omega), rowL_len]
    rfl
  have h1 : chkC (rowL 0) = 0 := by
    unfold chkC
    rw [rowL_chk 0 (by omega)]
    rfl
  rw [h0, h1, rowL_len, rowL_len, if_neg (by omega), if_neg (by omega), if_neg (by omega), if_pos (by omega)]
theorem put_deep6 : chkC (putR (deepL 64) (rowL 0) 63 0) = 6 := by kernel_rfl
theorem put_deep : putE (deepL 64) (rowL 0) 63 0 = ([], 6) := by
  unfold putE
  have h0 : askC (deepL 64) [63] = 0 := by kernel_rfl
  have h1 : chkC (rowL 0) = 0 := by
    unfold chkC
    rw [rowL_chk 0 (by omega)]
    rfl
  have h2 : (kidF (deepL 64) (deepL 64).length (63 : Int).toNat).length = 0 := by kernel_rfl
  rw [h0, h1, rowL_len, deepL_len, if_neg (by omega)]
  rw [deepL_len] at h2
  rw [h2, if_neg (by omega), if_neg (by omega), if_neg (by omega), put_deep6]
  have : chkB (putR (deepL 64) (rowL 0) 63 0) = false := by
    have := put_deep6
    unfold chkC at this
    split at this
    · cases this
    · rename_i h
      simpa using h
  unfold toldL
  rw [this]
  rfl
def twoL : List Nd := [nd0 4 ⟨#[]⟩ [1, 2], nd0 4 ⟨#[]⟩ [2], nd0 9 ⟨#[]⟩ []]
def twiceL : List Nd := [nd0 4 ⟨#[]⟩ [1, 1], nd0 9 ⟨#[]⟩ []]
theorem two_chk : chkC twoL = 6 := by kernel_rfl
theorem twice_chk : chkC twiceL = 6 := by kernel_rfl
/-- The node at its ends. -/
def ndT : Nd := ⟨1, wdB 64, wdB 64, wdB 65536, 16384, 16384, 16384, 16384, 16384, 1048576, false, 64, 64, 16384, 1048576, 1048576, false, List.replicate 16 padW, []⟩
theorem chk_one (n : Nd) (hk : n.kids = []) : chkB [n] = mayB n := by
  unfold chkB parE
  show ((if 1 < 1 ∨ 1024 < 1 then none else ppF 1 0 [n] [-1] [1]) : Option (List Int × List Int)).isSome = _
  rw [if_neg (by omega)]
  cases h : mayB n with
  | true =>
    rw [ppF, h, hk]
    rfl
  | false =>
    rw [ppF, h]
    rfl
theorem okW_pad : okW padW = true := by
  unfold okW okWr padW
  simp only [ByteArray.toList_eq]
  kernel_rfl
theorem okW_8 : okW ⟨8, 0, 0, ⟨#[]⟩⟩ = false := by
  unfold okW okWr
  simp only [ByteArray.toList_eq]
  kernel_rfl
theorem okW_15 : okW ⟨15, 0, 0, ⟨#[]⟩⟩ = false := by
  unfold okW okWr
  simp only [ByteArray.toList_eq]
  kernel_rfl
theorem allW_rep (n : Nat) : allW (List.replicate n padW) = true := by
  unfold allW
  rw [List.all_eq_true]
  intro t ht
  rw [List.eq_of_mem_replicate ht]
  exact okW_pad
theorem allW_2 (t : Wr) (h : okW t = false) : allW [padW, t] = false := by
  unfold allW
  simp [h]
theorem ndT_may : mayB ndT = true := by
  simp only [mayB, nodeB, ndT, okT_wd, allW_rep]
  kernel_rfl
theorem byN_may0 : mayB (byN ndT 0) = false := by
  simp only [mayB, nodeB, ndT, byN, okT_wd, allW_rep, allW_2 _ okW_8, allW_2 _ okW_15]
  kernel_rfl
theorem byN_may1 : mayB (byN ndT 1) = false := by
  simp only [mayB, nodeB, ndT, byN, okT_wd, allW_rep, allW_2 _ okW_8, allW_2 _ okW_15]
  kernel_rfl
theorem byN_may2 : mayB (byN ndT 2) = false := by
  simp only [mayB, nodeB, ndT, byN, okT_wd, allW_rep, allW_2 _ okW_8, allW_2 _ okW_15]
  kernel_rfl
theorem byN_may3 : mayB (byN ndT 3) = false := by
  simp only [mayB, nodeB, ndT, byN, okT_wd, allW_rep, allW_2 _ okW_8, allW_2 _ okW_15]
  kernel_rfl
theorem byN_may4 : mayB (byN ndT 4) = false := by
  simp only [mayB, nodeB, ndT, byN, okT_wd, allW_rep, allW_2 _ okW_8, allW_2 _ okW_15]
  kernel_rfl
theorem byN_may5 : mayB (byN ndT 5) = false := by
  simp only [mayB, nodeB, ndT, byN, okT_wd, allW_rep, allW_2 _ okW_8, allW_2 _ okW_15]
  kernel_rfl
theorem byN_may6 : mayB (byN ndT 6) = false := by
  simp only [mayB, nodeB, ndT, byN, okT_wd, allW_rep, allW_2 _ okW_8, allW_2 _ okW_15]
  kernel_rfl
theorem byN_may7 : mayB (byN ndT 7) = false := by
  simp only [mayB, nodeB, ndT, byN, okT_wd, allW_rep, allW_2 _ okW_8, allW_2 _ okW_15]
  kernel_rfl
theorem byN_may8 : mayB (byN ndT 8) = false := by
  simp only [mayB, nodeB, ndT, byN, okT_wd, allW_rep, allW_2 _ okW_8, allW_2 _ okW_15]
  kernel_rfl
theorem byN_may9 : mayB (byN ndT 9) = false := by
  simp only [mayB, nodeB, ndT, byN, okT_wd, allW_rep, allW_2 _ okW_8, allW_2 _ okW_15]
  kernel_rfl
theorem byN_may10 : mayB (byN ndT 10) = false := by
  simp only [mayB, nodeB, ndT, byN, okT_wd, allW_rep, allW_2 _ okW_8, allW_2 _ okW_15]
  kernel_rfl
theorem byN_may11 : mayB (byN ndT 11) = false := by
  simp only [mayB, nodeB, ndT, byN, okT_wd, allW_rep, allW_2 _ okW_8, allW_2 _ okW_15]
  kernel_rfl
theorem byN_may12 : mayB (byN ndT 12) = false := by
  simp only [mayB, nodeB, ndT, byN, okT_wd, allW_rep, allW_2 _ okW_8, allW_2 _ okW_15]
  kernel_rfl
theorem byN_may13 : mayB (byN ndT 13) = false := by
  simp only [mayB, nodeB, ndT, byN, okT_wd, allW_rep, allW_2 _ okW_8, allW_2 _ okW_15]
  kernel_rfl
theorem byN_may14 : mayB (byN ndT 14) = false := by
  simp only [mayB, nodeB, ndT, byN, okT_wd, allW_rep, allW_2 _ okW_8, allW_2 _ okW_15]
  kernel_rfl
theorem byN_may15 : mayB (byN ndT 15) = false := by
  simp only [mayB, nodeB, ndT, byN, okT_wd, allW_rep, allW_2 _ okW_8, allW_2 _ okW_15]
  kernel_rfl
theorem byN_may16 : mayB (byN ndT 16) = false := by
  simp only [mayB, nodeB, ndT, byN, okT_wd, allW_rep, allW_2 _ okW_8, allW_2 _ okW_15]
  kernel_rfl
theorem byN_may17 : mayB (byN ndT 17) = false := by
  simp only [mayB, nodeB, ndT, byN, okT_wd, allW_rep, allW_2 _ okW_8, allW_2 _ okW_15]
  kernel_rfl
theorem byN_may18 : mayB (byN ndT 18) = false := by
  simp only [mayB, nodeB, ndT, byN, okT_wd, allW_rep, allW_2 _ okW_8, allW_2 _ okW_15]
  kernel_rfl
theorem byN_may19 : mayB (byN ndT 19) = false := by
  simp only [mayB, nodeB, ndT, byN, okT_wd, allW_rep, allW_2 _ okW_8, allW_2 _ okW_15]
  kernel_rfl
theorem byN_kids (k : Nat) : (byN ndT k).kids = [] := by
  unfold byN
  split <;> rfl
theorem byN_ok (k : Nat) : (byN ndT k).ok := by
  have hp : ∀ n : Nat, ∀ t ∈ List.replicate n padW, t.ok := fun n t ht => by
    rw [List.eq_of_mem_replicate ht]
    exact ⟨⟨by decide, by decide⟩, ⟨by decide, by decide⟩, by decide⟩
  have h8 : ∀ t ∈ [padW, (⟨8, 0, 0, ⟨#[]⟩⟩ : Wr)], t.ok := fun t ht => by
    simp only [List.mem_cons, List.not_mem_nil, or_false] at ht
    rcases ht with rfl | rfl
    all_goals exact ⟨⟨by decide, by decide⟩, ⟨by decide, by decide⟩, by decide⟩
  have h15 : ∀ t ∈ [padW, (⟨15, 0, 0, ⟨#[]⟩⟩ : Wr)], t.ok := fun t ht => by
    simp only [List.mem_cons, List.not_mem_nil, or_false] at ht
    rcases ht with rfl | rfl
    all_goals exact ⟨⟨by decide, by decide⟩, ⟨by decide, by decide⟩, by decide⟩
  have ff : (ByteArray.mk #[255]).size = 1 := rfl
  unfold byN
  split
  all_goals
    refine ⟨⟨?_, ?_⟩, ?_, ?_, ?_, ?_, ?_, ?_⟩
    all_goals
      simp only [ndT, wdB_size, ff, List.length_replicate]
      first
        | omega
        | exact hp _
        | exact h8
        | exact h15
        | decide
theorem ndT_ok : ndT.ok := by
  have h1 : (wdB 64).size ≤ 9223372036854775807 := by rw [wdB_size]; omega
  have h3 : (wdB 65536).size ≤ 9223372036854775807 := by rw [wdB_size]; omega
  exact ⟨⟨by decide, by decide⟩, h1, h1, h3, fun t ht => by
    rw [List.eq_of_mem_replicate ht]
    exact ⟨⟨by decide, by decide⟩, ⟨by decide, by decide⟩, by decide⟩, by decide, by decide⟩
end Go.Proofs.YtnkojoajcdhngaaDoor
