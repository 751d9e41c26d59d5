/- Layer 10: starts, begins; Same. -/
import Derived.Test.YthannibclhidcaaMemT
namespace Go.Proofs.Ythannibclhidcaa
set_option linter.unusedVariables false
set_option linter.unusedSimpArgs false
open Go.RowKit
attribute [local go_sem] max_fold min_fold

def posL (S : List Int) (gap : Int) : Nat → Int
  | 0 => 0
  | k + 1 => posL S gap k + (S.getD k 0 + gap)
def startsL (S : List Int) (gap : Int) : List Int := (List.range S.length).map (posL S gap)
theorem startsL_len (S : List Int) (gap : Int) : (startsL S gap).length = S.length := by simp [startsL]
theorem getD_bd {S : List Int} {c : Int} (hS : ∀ n ∈ S, 0 ≤ n ∧ n ≤ c) (hc : 0 ≤ c) (k : Nat) : 0 ≤ S.getD k 0 ∧ S.getD k 0 ≤ c := by
  by_cases h : k < S.length
  · have := hS S[k] (List.getElem_mem h)
    simpa [List.getD, h] using this
  · simp [List.getD, h, hc]
theorem posL_bd {S : List Int} {gap : Int} (hS : ∀ n ∈ S, 0 ≤ n ∧ n ≤ 1000000000) (hg : 0 ≤ gap ∧ gap ≤ 16384) (k : Nat) : 0 ≤ posL S gap k ∧ posL S gap k ≤ k * 1000016384 := by
  induction k with
  | zero => simp [posL]
  | succ k ih =>
    have := getD_bd hS (by omega) k
    simp only [posL]
    omega
def IntsPost (l : List Int) (W : World) (e : Ending) (w' : World) : Prop := ∃ A c, e = .returned (.slice A l.length c) ∧ w'.ownsRow W.heap.size 3 1 (.slice A l.length c) l.length (ints l) ∧ Below W.heap.size W w'
theorem IntsPost.mk {l : List Int} {W w' : World} {A : Option Addr} {c n : Nat} (hl : l.length = n) (h : w'.ownsRow W.heap.size 3 1 (.slice A n c) n (ints l)) (hb : Below W.heap.size W w') : IntsPost l W (.returned (.slice A n c)) w' := by
  subst hl
  exact ⟨A, c, rfl, h, hb⟩

set_option maxHeartbeats 1000000 in
theorem starts_any (B : Nat) (A : Option Addr) (c : Nat) (S : List Int) (gap : Int) (w : World) (hA : At B w A (ints S)) (hB : B ≤ w.heap.size) (hl : S.length ≤ 1024) (hS : ∀ n ∈ S, 0 ≤ n ∧ n ≤ 1000000000) (hg : 0 ≤ gap ∧ gap ≤ 16384) :
    Calls Try.prog 46 #[.slice A S.length c, .int .i64 gap] w (IntsPost (startsL S gap) w) := by
  obtain ⟨n, hn⟩ : ∃ n, S.length = n := ⟨_, rfl⟩
  have hpb := posL_bd hS hg
  have HN := Go.Lib.hid hn
  have HS := Go.Lib.hid hS
  have HP := Go.Lib.hid hpb
  have hres : startsL S gap = (List.range n).map (posL S gap) := by rw [← hn]; rfl
  have HR := Go.Lib.hid hres
  have hln : n ≤ 1024 := by omega
  rw [hn]
  clear hn hS hpb hl hres
  go_enter Try.func46, Try.ntmps46
  go_wp2_with (first | (at_make; refine make_ints rfl (.tmp 10) (.tmp 10) rfl w.heap.size n rfl rfl ?_ ?_ ?_))
  · omega
  · omega
  intro w1 hown1 hgr1
  have hb1 : Below w.heap.size w w1 := (Below.refl _ _).grown hgr1 (Nat.le_refl _) (fun k hk => by cases hk)
  rw [replicate_range] at hown1
  clear hgr1
  go_wp2
  go_loopw [6, 14] (fun at_ i wr => ∃ k : Nat, k ≤ n ∧ i = .int .i64 k ∧ at_ = .int .i64 (posL S gap k) ∧ wr.ownsRow w.heap.size 3 1 (.slice (some ⟨w.heap.size, 0, none⟩) n n) n (ints ((List.range n).map fun i => if i < k then posL S gap i else 0)) ∧ Below w.heap.size w wr) (fun _ i _ => n - (intOf i).toNat)
  case atStart => exact ⟨0, by omega, rfl, rfl, by simpa using hown1, hb1⟩
  case round =>
    clear hown1 hb1
    obtain ⟨k, hk, rfl, rfl, hown, hbr⟩ := hrel
    have hpk := HP.out k
    have hp1 : posL S gap (k + 1) = posL S gap k + (S.getD k 0 + gap) := rfl
    by_cases hlt : k < n
    · have hli : (k : Int) < (n : Int) := by omega
      have hks : k < S.length := by have := HN.out; omega
      obtain ⟨g, o, rfl, hg', c0⟩ := (hA.below (hbr.mono hB)).int hks
      have hel := HS.out S[k] (List.getElem_mem hks)
      have hgd : S.getD k 0 = S[k] := by simp [List.getD, hks]
      rw [hgd] at hp1
      generalize S[k] = s at *
      have hcell := hown.cellAt k (by omega)
      rw [ints_at _ k (by simpa using hlt)] at hcell
      have hfr := hown.frozenAt k
      have hst := own_store hown k (.int .i64 (posL S gap k))
      rw [ints_set, set_range] at hst
      have hpe : ((List.range n).map fun i => if i = k then posL S gap k else if i < k then posL S gap i else 0) = (List.range n).map fun i => if i < k + 1 then posL S gap i else 0 := map_range_congr fun i _ => by
        by_cases e : i = k
        · subst e
          simp
        · have : (i < k + 1) = (i < k) := by simp; omega
          simp [e, this]
      rw [hpe] at hst
      have hbs := hbr.setCell (p := ⟨w.heap.size, k, none⟩) (Nat.le_refl _) (.int .i64 (posL S gap k))
      have HST := Go.Lib.hid hst
      have HP1 := Go.Lib.hid hp1
      clear hp1 hst hpe hown hgd
      generalize posL S gap k = P at *
      go_wp2
      go_roundw
      case rel => exact ⟨k + 1, by omega, by go_num, by rw [HP1.out], HST.out, hbs⟩
      case measure => simp [intOf]; omega
    · have hlt' : ¬ ((k : Int) < (n : Int)) := by omega
      have hkn : k = n := by omega
      clear hp1
      go_wp2
      go_ret
      rw [HR.out]
      have e : ((List.range n).map fun i => if i < k then posL S gap i else 0) = (List.range n).map (posL S gap) := map_range_congr fun i hi => by rw [if_pos (by omega)]
      rw [e] at hown
      exact IntsPost.mk (by simp) hown hbr

set_option maxHeartbeats 1000000 in
theorem begins_any (B : Nat) (A : Option Addr) (c : Nat) (S : List Int) (gap : Int) (w : World) (hA : At B w A (ints S)) (hB : B ≤ w.heap.size) (hl : S.length ≤ 1024) (hS : ∀ n ∈ S, 0 ≤ n ∧ n ≤ 1000000000) (hg : 0 ≤ gap ∧ gap ≤ 16384) :
    Calls Try.prog 49 #[.slice A S.length c, .int .i64 gap] w (IntsPost (startsL S gap) w) := by
  obtain ⟨n, hn⟩ : ∃ n, S.length = n := ⟨_, rfl⟩
  have hpb := posL_bd hS hg
  have HN := Go.Lib.hid hn
  have HS := Go.Lib.hid hS
  have HP := Go.Lib.hid hpb
  have hres : startsL S gap = (List.range n).map (posL S gap) := by rw [← hn]; rfl
  have HR := Go.Lib.hid hres
  have hln : n ≤ 1024 := by omega
  rw [hn]
  clear hn hS hpb hl hres
  go_enter Try.func49, Try.ntmps49
  go_wp2
  go_loopw [5, 6, 7] (fun out at_ i wr => ∃ (k : Nat) (A' : Option Addr) (c' : Nat), k ≤ n ∧ i = .int .i64 k ∧ at_ = .int .i64 (posL S gap k) ∧ out = .slice A' k c' ∧ wr.ownsRow w.heap.size 3 1 (.slice A' k c') k (ints ((List.range k).map (posL S gap))) ∧ Below w.heap.size w wr) (fun _ _ i _ => n - (intOf i).toNat)
  case atStart => exact ⟨0, none, 0, by omega, rfl, rfl, rfl, World.ownsRow_nil _ _ _ _, Below.refl _ _⟩
  case round =>
    obtain ⟨k, A', c', hk, rfl, rfl, rfl, hown, hbr⟩ := hrel
    have hsr := hbr.size
    have hpk := HP.out k
    have hp1 : posL S gap (k + 1) = posL S gap k + (S.getD k 0 + gap) := rfl
    by_cases hlt : k < n
    · have hli : (k : Int) < (n : Int) := by omega
      have hks : k < S.length := by have := HN.out; omega
      obtain ⟨g, o, rfl, hg', c0⟩ := (hA.below (hbr.mono hB)).int hks
      have hel := HS.out S[k] (List.getElem_mem hks)
      have hgd : S.getD k 0 = S[k] := by simp [List.getD, hks]
      rw [hgd] at hp1
      generalize S[k] = s at *
      have hsn := range_snoc k (posL S gap)
      have HSN := Go.Lib.hid hsn
      have HP1 := Go.Lib.hid hp1
      have hlm : ((List.range k).map (posL S gap)).length = k := by simp
      clear hp1 hsn hgd
      generalize (List.range k).map (posL S gap) = M at *
      generalize posL S gap k = P at *
      subst hlm
      go_wp2_with (first | (at_builtin; refine append_int rfl (.tmp 14) (.tmp 16) rfl w.heap.size _ M P wr.heap.size rfl rfl (hown.alloc _) (by simp [go_sem]) ?_ ?_ ?_))
      · omega
      · simp; omega
      intro v2 w2 hown2 hg2 _
      obtain ⟨A2, c2, rfl⟩ := own_shape hown2
      have hb2 : Below w.heap.size w w2 := (hbr.alloc hsr _).grown hg2 (by simp; omega) (own_ge hown)
      have c0' : w2.cell? ⟨g, o + M.length, none⟩ = some (.int .i64 s) := by
        rw [hb2.cell (p := ⟨g, o + M.length, none⟩) (by simp only; omega), ← hbr.cell (p := ⟨g, o + M.length, none⟩) (by simp only; omega)]
        exact c0
      clear hg2 hown
      go_wp2
      go_roundw
      case rel => exact ⟨M.length + 1, A2, c2, by omega, by go_num, by rw [HP1.out]; first | rfl | go_num, by first | rfl | (rw [List.length_append]; rfl), by rw [HSN.out]; first | exact hown2 | (rw [List.length_append] at hown2; exact hown2), hb2⟩
      case measure => simp [intOf]; omega
    · have hlt' : ¬ ((k : Int) < (n : Int)) := by omega
      have hkn : k = n := by omega
      subst hkn
      clear hp1
      go_wp2
      go_ret
      rw [HR.out]
      exact IntsPost.mk (by simp) hown hbr

/-! Same: two lists of numbers. -/
set_option maxHeartbeats 1000000 in
theorem same_any (B : Nat) (A A2 : Option Addr) (c c2 : Nat) (l m : List Int) (w : World) (hl : l.length ≤ 1000000) (hm : m.length ≤ 1000000) (h1 : At B w A (ints l)) (h2 : At B w A2 (ints m)) :
    Calls Try.prog 18 #[.slice A l.length c, .slice A2 m.length c2] w fun e w' => e = .returned (.bool (decide (l = m))) ∧ Below w.heap.size w w' := by
  by_cases hlen : l.length = m.length
  · have hne : ((l.length : Int) != (m.length : Int)) = false := by simp [hlen]
    have HL := Go.Lib.hid hlen
    clear hlen
    go_enter Try.func18, Try.ntmps18
    go_wp2
    go_loopw [5] (fun i wr => ∃ k : Nat, k ≤ l.length ∧ i = .int .i64 k ∧ Hid (∀ j, (hj : j < k) → (h1 : j < l.length) → (h2 : j < m.length) → l[j] = m[j]) ∧ Below w.heap.size w wr ∧ At B wr A (ints l) ∧ At B wr A2 (ints m)) (fun i wr => l.length - (intOf i).toNat)
    case atStart => exact ⟨0, by omega, rfl, Go.Lib.hid fun j hj => absurd hj (by omega), Below.refl _ _, h1, h2⟩
    case round =>
      clear h1 h2
      obtain ⟨k, hk, rfl, HE, hbr, h1, h2⟩ := hrel
      by_cases hlt : k < l.length
      · have hlt2 : k < m.length := by have := HL.out; omega
        obtain ⟨g, o, rfl, hg, a0⟩ := h1.int hlt
        obtain ⟨g', o', rfl, hg', b0⟩ := h2.int hlt2
        have i1 : (k : Int) < (l.length : Int) := by omega
        have i2 : (k : Int) < (m.length : Int) := by omega
        have lg := World.block_lt_of_cell? _ _ a0
        have lg' := World.block_lt_of_cell? _ _ b0
        by_cases hz : l[k] = m[k]
        · have hz' : (l[k] != m[k]) = false := by simp [hz]
          have HZ := Go.Lib.hid hz
          clear hz
          go_wp2
          refine region_ext mixed (by kernel_rfl) ?_
          repeat (go_big_quiet_step (fail))
          refine wpQuiet_nil ?_
          intro w1 hb1
          go_wp2
          go_roundw
          case rel =>
            refine ⟨k + 1, by omega, by go_num, Go.Lib.hid fun j hj j1 j2 => ?_, hbr.trans (hb1.mono hbr.size), h1.ext hb1, h2.ext hb1⟩
            by_cases ej : j = k
            · subst ej
              exact HZ.out
            · exact HE.out j (by omega) j1 j2
          case measure => simp [intOf]; omega
        · have hz' : (l[k] != m[k]) = true := by simp [hz]
          have HZ := Go.Lib.hid hz
          clear hz
          go_wp2
          refine region_ext mixed (by kernel_rfl) ?_
          repeat (go_big_quiet_step (fail))
          refine wpQuiet_nil ?_
          intro w1 hb1
          go_wp2
          go_ret
          refine ⟨ret_bool ?_, hbr.trans (hb1.mono hbr.size)⟩
          symm
          simp only [decide_eq_false_iff_not]
          intro e
          subst e
          exact HZ.out rfl
      · have hkl : k = l.length := by omega
        have hlt' : ¬ ((k : Int) < (l.length : Int)) := by omega
        go_wp2
        go_ret
        refine ⟨ret_bool ?_, hbr⟩
        symm
        simp only [decide_eq_true_eq]
        exact List.ext_getElem HL.out fun j j1 j2 => HE.out j (by omega) j1 j2
  · have hne : ((l.length : Int) != (m.length : Int)) = true := by simp; omega
    go_enter Try.func18, Try.ntmps18
    go_wp2
    go_ret
    exact ⟨ret_bool (by symm; simp; intro e; exact hlen (by rw [e])), (by repeat (first | exact Below.refl _ _ | with_reducible refine Below.alloc ?_ (by first | (simp; done) | (simp; omega) | omega) _ | with_reducible refine Below.setCell ?_ (by first | (simp; done) | (simp; omega) | omega) _ | with_reducible refine Below.drew ?_ | with_reducible refine Below.trans ?_ (Below.mono (by assumption) (by first | (simp; done) | (simp; omega) | omega))))⟩
end Go.Proofs.Ythannibclhidcaa
