/- Layer 10: the law FlexShares. -/
import Derived.Test.YthannibclhidcaaFlexF
namespace Go.Proofs.Ythannibclhidcaa
set_option linter.unusedVariables false
set_option linter.unusedSimpArgs false
open Go.RowKit
attribute [local go_sem] max_fold min_fold

theorem t3s_take (L : List T3) (t : T3) : (t3s (L ++ [t])).take (L.length * 3) = t3s L := by
  rw [t3s_append, List.take_append_of_le_length (by rw [t3s_len]; omega), ← t3s_len, List.take_length]
theorem ints_take (L : List Int) (t : Int) : (ints (L ++ [t])).take L.length = ints L := by
  rw [ints_append, List.take_append_of_le_length (by rw [ints_len]; omega), ← ints_len, List.take_length]
theorem own_cap {w : World} {base : Nat} {e : TypeId} {size n m c : Nat} {A : Option Addr} {xs : List Value} (h : w.ownsRow base e size (.slice A n c) m xs) : n ≤ c ∧ c ≤ maxLen := by
  rcases h.2 with ⟨hv, _⟩ | ⟨g, cap, cur, hv, hb, hh, hn', hcap, hcs, ht⟩
  · injection hv with h1 h2 h3
    subst h2
    subst h3
    exact ⟨Nat.le_refl _, Nat.zero_le _⟩
  · injection hv with h1 h2 h3
    subst h2
    subst h3
    exact ⟨by omega, by omega⟩
/-- What stays while a row is written over: what is known at the loop's start (w0), what lies below the row, rows of others. -/
structure Over (W w0 : World) (base : Nat) (A : Option Addr) (n c : Nat) (wr : World) : Prop where
  below : Below base w0 wr
  size : w0.heap.size ≤ wr.heap.size
  row : ∃ M : List Int, M.length = n ∧ wr.ownsRow base 3 1 (.slice A n c) n (ints M)
  rest : ∀ (b : Nat) (l : List Int) (A2 : Option Addr) (c2 : Nat), (∀ k, (Value.slice A2 l.length c2).ownBlock = some k → (Value.slice A n c).ownBlock ≠ some k) → w0.ownsRow b 3 1 (.slice A2 l.length c2) l.length (ints l) → wr.ownsRow b 3 1 (.slice A2 l.length c2) l.length (ints l)

theorem Over.start {W w0 : World} {base n c : Nat} {A : Option Addr} {M : List Int} (hM : M.length = n) (h : w0.ownsRow base 3 1 (.slice A n c) n (ints M)) : Over W w0 base A n c w0 :=
  ⟨Below.refl _ _, Nat.le_refl _, ⟨M, hM, h⟩, fun _ _ _ _ _ h => h⟩
theorem Over.cells {W w0 wr : World} {base n c k : Nat} {A : Option Addr} (h : Over W w0 base A n c wr) (hk : k < n) : ∃ g, A = some ⟨g, 0, none⟩ ∧ base ≤ g ∧ (∃ u, wr.cell? ⟨g, k, none⟩ = some (.int .i64 u)) ∧ wr.frozen? ⟨g, k, none⟩ = false ∧ g < wr.heap.size ∧ Over W w0 base A n c (wr.setCell ⟨g, k, none⟩ (.int .i64 77)) := by
  obtain ⟨M, hM, hrow⟩ := h.row
  obtain ⟨g, rfl, hg, hg2⟩ := own_head hrow (by omega)
  have hc := hrow.cellAt k (by omega)
  rw [ints_at M k (by omega)] at hc
  have h1 := own_store hrow k (.int .i64 77)
  rw [ints_set] at h1
  refine ⟨g, rfl, hg, ⟨_, hc⟩, hrow.frozenAt k, hg2, ⟨h.below.setCell (p := ⟨g, k, none⟩) hg _, by simpa using h.size, ⟨_, by simpa using hM, h1⟩, fun b l A2 c2 hne hrow2 => own_off (h.rest b l A2 c2 hne hrow2) fun e => hne g e rfl⟩⟩

theorem shareR_len (L : List T3) (room : Int) : (shareR L room).length ≤ 1024 := by
  unfold shareR
  split
  · rename_i h
    obtain ⟨h0, hr⟩ := shareE_ok h
    obtain ⟨h1, h2⟩ := chk_ok h0
    rw [(share_out h1 h2 ((inB_iff _ _ _).1 hr)).1]
    exact h1
  · simp

set_option maxRecDepth 100000 in
set_option maxHeartbeats 8000000 in
theorem walkFlexShares (w : World) (A : Option Addr) (c : Nat) (L : List T3) (hA : At w.heap.size w A (t3s L)) (hnil : A = none → L.length = 0 ∧ c = 0) (hlc : L.length ≤ c) (hcm : c ≤ maxLen) (room : Int) (hx : (Lit.int .i64 room).wf = true) :
    Calls Try.prog 4 #[.slice A L.length c, .int .i64 room] w fun e w' => e = .returned (.bool true) ∧ Below w.heap.size w w' := by
  by_cases hbig : 5000 < L.length
  · have hb : (5000 : Int) < (L.length : Int) := by omega
    have hm : (L.length : Int) ≤ 9223372036854775807 := by unfold maxLen at hcm; omega
    go_enter Try.func4, Try.ntmps4
    go_wp2
    go_ret
    exact ⟨rfl, Below.refl _ _⟩
  · have hb : ¬ (5000 : Int) < (L.length : Int) := by omega
    have hl2 : L.length ≤ 5000 := by omega
    obtain ⟨S, hS⟩ : ∃ S, shareR L room = S := ⟨_, rfl⟩
    obtain ⟨E, hE⟩ : ∃ E, shareE L room = E := ⟨_, rfl⟩
    have hSl := shareR_len L room
    rw [hS] at hSl
    have HSH : Hid (∀ B A c w, At B w A (t3s L) → B ≤ w.heap.size → Calls Try.prog 20 #[.slice A L.length c, .int .i64 room] w (IntsE S E w)) := Go.Lib.hid fun B A c w h1 h2 => by
      rw [← hS, ← hE]
      exact Share_any B A c L room w h1 h2 (by omega)
    have HRS : Hid (∀ B A c w, At B w A (t3s L) → B ≤ w.heap.size → Calls Try.prog 21 #[.slice A L.length c, .int .i64 room] w (IntsE S E w)) := Go.Lib.hid fun B A c w h1 h2 => by
      rw [← hS, ← hE]
      exact rShare_any B A c L room w h1 h2 (by omega)
    clear hS hE hlc hcm hbig hx
    go_enter Try.func4, Try.ntmps4
    go_wp2_with fail
    refine (own_any _ A c L _ hA (Nat.le_refl _) hl2 hnil).mono ?_
    rintro e w1 ⟨g1, c1, rfl, hin, hb1⟩
    have hs1 := hb1.size
    have hcap := (own_cap hin).1
    have hI1 := At.of_own hin
    have hT1 := hI1.take (L.length * 3)
    rw [t3s_take] at hT1
    have hA1 := hA.below hb1
    have hq : (L.length : Int) ≤ (c1 : Int) := by omega
    clear hin hA hcap
    go_wp2_with fail
    refine (HSH.out _ _ _ _ hT1 (Nat.le_refl _)).mono ?_
    rintro e w2 ⟨Aa, ca, rfl, hown2, hb2⟩
    have hs2 := hb2.size
    go_wp2_with fail
    refine (HSH.out _ _ _ _ (hT1.below hb2) hs2).mono ?_
    rintro e w3 ⟨Ab, cb, rfl, hown3, hb3⟩
    have hs3 := hb3.size
    go_wp2_with fail
    refine (HRS.out _ _ _ _ ((hA1.below (hb2.mono hs1)).below (hb3.mono (by omega))) (by omega)).mono ?_
    rintro e w4 ⟨Aw, cw, rfl, hown4, hb4⟩
    have hs4 := hb4.size
    have ha4 := own_below' (own_below' hown2 hb3) hb4
    have hb4' := own_below' hown3 hb4
    have hcross : Below w1.heap.size w1 w4 := hb2.trans ((hb3.mono hs2).trans (hb4.mono (by omega)))
    have hAa := (At.of_own ha4)
    have hAw := (At.of_own hown4)
    go_wp2_with fail
    refine (same_any w4.heap.size Aa Aw ca cw S S _ (by omega) (by omega) hAa hAw).mono ?_
    rintro e w5 ⟨rfl, hb5⟩
    have hs5 := hb5.size
    have ha5 := own_below' ha4 hb5
    have hb5' := own_below' hb4' hb5
    have hw5 := own_below' hown4 hb5
    have hc5 : Below w1.heap.size w1 w5 := hcross.trans (hb5.mono (by omega))
    have hd1 : ∀ k, (Value.slice Ab S.length cb).ownBlock = some k → (Value.slice Aa S.length ca).ownBlock ≠ some k := fun k h1 h2 => by
      have := (hown2.lt k h2).2
      have := (hown3.lt k h1).1
      omega
    have hd2 : ∀ k, (Value.slice Aw S.length cw).ownBlock = some k → (Value.slice Aa S.length ca).ownBlock ≠ some k := fun k h1 h2 => by
      have := (hown2.lt k h2).2
      have := (hown4.lt k h1).1
      omega
    have HD1 := Go.Lib.hid hd1
    have HD2 := Go.Lib.hid hd2
    clear hown2 hown3 hown4 hb2 hb3 hb4 hb5 ha4 hb4' hcross hAa hAw hd1 hd2
    go_wp2
    go_loopw [12] (fun i wr => ∃ k : Nat, k ≤ S.length ∧ i = .int .i64 k ∧ Over w w5 w1.heap.size Aa S.length ca wr) (fun i _ => S.length - (intOf i).toNat)
    case atStart => exact ⟨0, by omega, rfl, Over.start rfl ha5⟩
    case round =>
      obtain ⟨k, hk, rfl, hov⟩ := hrel
      by_cases hlt : k < S.length
      · have hli : (k : Int) < (S.length : Int) := by omega
        obtain ⟨g, rfl, hg, ⟨u, hcell⟩, hfr, hgs, hov2⟩ := hov.cells hlt
        clear hov hb5' hw5 ha5
        go_wp2
        go_roundw
        case rel => exact ⟨k + 1, by omega, by go_num, hov2⟩
        case measure => simp [intOf]; omega
      · have hlt' : ¬ ((k : Int) < (S.length : Int)) := by omega
        have hb6 := hov.rest _ _ _ _ HD1.out hb5'
        have hw6 := hov.rest _ _ _ _ HD2.out hw5
        have hc6 : Below w1.heap.size w1 wr := hc5.trans hov.below
        have hs6 := hov.size
        have hsz6 := hc6.size
        clear hov ha5 hb5' hw5 hc5
        have hB6 := At.of_own hb6
        have hW6 := At.of_own hw6
        clear hb6 hw6 hk hlt
        go_wp2_with fail
        refine (need_any _ _ _ L _ (hT1.below hc6) hsz6 (by omega)).mono ?_
        rintro e w7 ⟨rfl, hb7⟩
        have hs7 := hb7.size
        have hc7 := hc6.trans (hb7.mono hsz6)
        go_wp2_with fail
        refine (rneed_any _ _ _ L _ ((hA1.below (hc7.mono hs1))) (by omega) (by omega)).mono ?_
        rintro e w8 ⟨rfl, hb8⟩
        have hs8 := hb8.size
        have hc8 := hc7.trans (hb8.mono (by omega))
        go_wp2_with fail
        refine (most_any _ _ _ L _ (hT1.below hc8) (by omega) (by omega)).mono ?_
        rintro e w9 ⟨rfl, hb9⟩
        have hs9 := hb9.size
        have hc9 := hc8.trans (hb9.mono (by omega))
        go_wp2_with fail
        refine (rmost_any _ _ _ L _ ((hA1.below (hc9.mono hs1))) (by omega) (by omega)).mono ?_
        rintro e w10 ⟨rfl, hb10⟩
        have hs10 := hb10.size
        have hc10 := hc9.trans (hb10.mono (by omega))
        have hall : Below wr.heap.size wr w10 := hb7.trans ((hb8.mono hs7).trans ((hb9.mono (by omega)).trans (hb10.mono (by omega))))
        clear hb7 hb8 hb9 hb10 hc7 hc8 hc9
        go_wp2_with fail
        refine (same_any wr.heap.size Ab Aw cb cw S S _ (by omega) (by omega) (hB6.below hall) (hW6.below hall)).mono ?_
        rintro e w11 ⟨rfl, hb11⟩
        have hs11 := hb11.size
        have hc11 := hc10.trans (hb11.mono (by omega))
        go_wp2_with fail
        refine (kept_any w1.heap.size _ _ _ _ L _ (hI1.below hc11) ((hA1.below (hc11.mono hs1)).mono hs1) (by omega) hl2).mono ?_
        rintro e w12 ⟨rfl, hb12⟩
        go_wp2
        go_ret
        exact ⟨rfl, hb1.trans ((hc11.mono hs1).trans (hb12.mono (by omega)))⟩
end Go.Proofs.Ythannibclhidcaa
