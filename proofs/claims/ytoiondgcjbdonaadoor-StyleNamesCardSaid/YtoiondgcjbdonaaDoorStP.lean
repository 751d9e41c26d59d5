/- Layer 5: the reference's Order: the walk. -/
import Derived.Test.YtoiondgcjbdonaaDoorStN
namespace Go.Proofs.YtoiondgcjbdonaaDoor
set_option linter.unusedVariables false
set_option linter.unusedSimpArgs false
set_option maxRecDepth 100000
open Go.RowKit Go.Shelf Go.Lib Go.Sort

def rankL (L : List Ru) (i m : Nat) : Nat := (List.range m).countP (fun j => decide (Rk (keyAt L) j i))
theorem rankL_lt {L : List Ru} {i : Nat} (hi : i < L.length) : rankL L i L.length < L.length := rank_lt _ hi
theorem rankL_succ (L : List Ru) (i m : Nat) : rankL L i (m + 1) = rankL L i m + if Rk (keyAt L) m i then 1 else 0 := by
  unfold rankL
  rw [List.range_succ, List.countP_append]
  simp [List.countP_cons]
theorem rankL_self (L : List Ru) (i : Nat) : rankL L i (i + 1) = rankL L i i := by
  rw [rankL_succ, if_neg Rk.irrefl]; rfl
theorem rankL_le (L : List Ru) (i m : Nat) : rankL L i m ≤ m := by
  have := List.countP_le_length (p := fun j => decide (Rk (keyAt L) j i)) (l := List.range m)
  rwa [List.length_range] at this
theorem rank_ord (L : List Ru) {k : Nat} (hk : k < L.length) : rankL L ((ordN L)[k]'(by unfold ordN; rw [ordL_len]; exact hk)) L.length = k := by
  have h := ordL_rank (keyAt L) hk
  rw [getElem!_pos _ k (by rw [ordL_len]; exact hk)] at h
  exact h
theorem ordN_len (L : List Ru) : (ordN L).length = L.length := ordL_len _ _
theorem rank_inj {L : List Ru} {i j : Nat} (hi : i < L.length) (hj : j < L.length) (h : rankL L i L.length = rankL L j L.length) : i = j := by
  obtain ⟨p, hp, he⟩ := List.mem_iff_getElem.1 ((ordL_mem (keyAt L) L.length i).2 hi)
  obtain ⟨q, hq, hf⟩ := List.mem_iff_getElem.1 ((ordL_mem (keyAt L) L.length j).2 hj)
  have hp' : p < L.length := by rw [ordL_len] at hp; exact hp
  have hq' : q < L.length := by rw [ordL_len] at hq; exact hq
  have r1 := rank_ord L hp'
  have r2 := rank_ord L hq'
  unfold ordN at r1 r2
  rw [he] at r1
  rw [hf] at r2
  have : p = q := by omega
  subst this
  rw [← he, ← hf]
theorem ordI_of_rank {L : List Ru} {l : List Int} (hl : l.length = L.length) (h : ∀ i, i < L.length → l[rankL L i L.length]? = some (i : Int)) : l = ordI L := by
  apply List.ext_getElem
  · rw [ordI_len, hl]
  · intro k h1 h2
    have hk : k < L.length := by omega
    have hm := (ordL_mem (keyAt L) L.length _).1 (List.getElem_mem (l := ordN L) (n := k) (by rw [ordN_len]; exact hk))
    have := h _ hm
    rw [rank_ord L hk, List.getElem?_eq_getElem h1] at this
    rw [Option.some.inj this]
    simp [ordI]
/-- After i rounds each of the first i numbers stands where its strength tells. -/
def Put (L : List Ru) (i : Nat) (l : List Int) : Prop := l.length = L.length ∧ ∀ j, j < i → l[rankL L j L.length]? = some (j : Int)
theorem Put.start (L : List Ru) : Put L 0 (List.replicate L.length 0) := ⟨by simp, fun j hj => by omega⟩
theorem Put.next {L : List Ru} {i : Nat} {l : List Int} (h : Put L i l) (hi : i < L.length) : Put L (i + 1) (l.set (rankL L i L.length) i) := by
  refine ⟨by simp [h.1], fun j hj => ?_⟩
  by_cases e : j = i
  · subst e
    rw [List.getElem?_set_self (by rw [h.1]; exact rankL_lt hi)]
  · rw [List.getElem?_set_ne (fun he => e (rank_inj (by omega) hi he.symm))]
    exact h.2 j (by omega)

theorem stronger_any (A : Option Addr) (c : Nat) (L : List Ru) (i k B : Nat) (w : World) (hA : At B w A (rus L)) (hst : ∀ r ∈ L, r.st ≤ 15) (hi : i < L.length) (hk : k < L.length) (h256 : L.length ≤ 256) :
    Calls Tryd.prog 39 #[.slice A L.length c, .int .i64 (i : Int), .int .i64 (k : Int)] w fun e w' => e = .returned (.bool (decide (Rk (keyAt L) k i))) ∧ Below w.heap.size w w' := by
  obtain ⟨g, o, rfl, hg, hc⟩ := hA (by rw [rus_len]; omega)
  have q := fun j hj v hv => rus_cells hc hi j v hj hv
  have p := fun j hj v hv => rus_cells hc hk j v hj hv
  have e : decide (Rk (keyAt L) k i) = decide (keyR L[k] < keyR L[i] ∨ (keyR L[k] = keyR L[i] ∧ k < i)) := by rw [decide_eq_decide]; unfold Rk; rw [keyAt_get hi, keyAt_get hk]
  rw [e]
  exact stronger_cells g o L.length c i k _ _ w (hst _ (List.getElem_mem hi)) (hst _ (List.getElem_mem hk)) hi hk h256
    (q 0 (by omega) _ rfl) (q 1 (by omega) _ rfl) (q 2 (by omega) _ rfl) (p 0 (by omega) _ rfl) (p 1 (by omega) _ rfl) (p 2 (by omega) _ rfl)

theorem ok_st {L : List Ru} (h : okAll L = true) : ∀ r ∈ L, r.st ≤ 15 := by
  intro r hr
  have := (List.all_eq_true.1 h) r hr
  unfold okR at this
  simp only [Bool.and_eq_true, decide_eq_true_eq] at this
  exact this.2.2.2.2.1

theorem told_t (w : World) : Calls Tryd.prog 40 #[.bool true] w fun e w' => e = .returned (.int .i64 1) ∧ w = w' := told_any true w
theorem told_f (w : World) : Calls Tryd.prog 40 #[.bool false] w fun e w' => e = .returned (.int .i64 0) ∧ w = w' := told_any false w

set_option maxHeartbeats 1000000 in
set_option maxRecDepth 1000000 in
theorem rOrder_bad (B : Nat) (A : Option Addr) (c : Nat) (L : List Ru) (hin : ∀ r ∈ L, r.In) (w : World) (hT : Tabs w) (hA : At B w A (rus L)) (hB : B ≤ w.heap.size) (hl : L.length ≤ 9000000000000000000) (hc : chkE L ≠ 0) :
    Calls Tryd.prog 15 #[.slice A L.length c] w fun e w' => e = .returned (.tuple #[.slice none 0 0, .int .i64 (chkE L)]) ∧ Below w.heap.size w w' := by
  have C : Calls Tryd.prog 21 #[.slice A L.length c] w fun e w' => e = .returned (.int .i64 (chkE L)) ∧ Below w.heap.size w w' :=
    rCheck_any B A c L hin w hT hA hB hl
  generalize chkE L = E at *
  have hz : (E != 0) = true := by simpa using hc
  clear hc hA hT
  go_enter Tryd.func15, Tryd.ntmps15
  go_wp2_with (go_at_call 21; refine C.mono ?_; rintro e w1 ⟨rfl, hb1⟩)
  go_ret2
  exact ⟨rfl, hb1⟩

set_option maxHeartbeats 4000000 in
set_option maxRecDepth 1000000 in
theorem rOrder_ok (B : Nat) (A : Option Addr) (c : Nat) (L : List Ru) (hin : ∀ r ∈ L, r.In) (w : World) (hT : Tabs w) (hA : At B w A (rus L)) (hB : B ≤ w.heap.size) (hc : chkE L = 0) :
    Calls Tryd.prog 15 #[.slice A L.length c] w (OrdE L w) := by
  have hl := chk_len hc
  have HST := Go.Lib.hid (ok_st (chk_ok hc).2)
  have C : Calls Tryd.prog 21 #[.slice A L.length c] w fun e w' => e = .returned (.int .i64 0) ∧ Below w.heap.size w w' := by
    have q := rCheck_any B A c L hin w hT hA hB (by omega)
    rw [hc] at q; exact q
  have HA := Go.Lib.hid (hA.mono hB)
  have HS : Hid (∀ (w' : World) (i k : Nat), Below w.heap.size w w' → i < L.length → k < L.length → Calls Tryd.prog 39 #[.slice A L.length c, .int .i64 (i : Int), .int .i64 (k : Int)] w' fun e w'' => e = .returned (.bool (decide (Rk (keyAt L) k i))) ∧ Below w'.heap.size w' w'') :=
    Go.Lib.hid fun w' i k hb hi hk => stronger_any A c L i k w.heap.size w' (HA.out.below hb) HST.out hi hk hl
  clear hc hT hA hin
  go_enter Tryd.func15, Tryd.ntmps15
  go_wp2_with fail
  refine C.mono ?_
  rintro e w1 ⟨rfl, hb1⟩
  have hs1 := hb1.size
  clear C
  go_wp2_with (first | (at_make; refine make_ints rfl (.tmp 16) (.tmp 16) rfl w.heap.size L.length rfl rfl ?_ ?_ ?_))
  · omega
  · omega
  intro w2 hown2 hgr2
  have hb2 : Below w1.heap.size w1 w2 := (Below.refl _ _).grown hgr2 (Nat.le_refl _) (fun k hk => by cases hk)
  have hbw : Below w.heap.size w w2 := hb1.trans (hb2.mono hs1)
  have HX := Go.Lib.hid (And.intro hbw hown2)
  clear hgr2 hown2 hb2 hbw hb1
  go_wp2
  go_loopg [6] L.length (fun gh i wr => ∃ (k : Nat) (l : List Int), i = .int .i64 k ∧ k ≤ L.length ∧ L.length - k ≤ gh ∧ Hid (Put L k l) ∧ Hid (wr.ownsRow w.heap.size 3 1 (.slice (some ⟨w1.heap.size, 0, none⟩) L.length L.length) L.length (ints l)) ∧ Hid (Below w.heap.size w wr))
  case atStart => exact ⟨0, _, rfl, by omega, by omega, Go.Lib.hid (Put.start L), Go.Lib.hid HX.out.2, Go.Lib.hid HX.out.1⟩
  case round =>
    obtain ⟨k, l, rfl, hk, hgk, HP, HW, HB⟩ := hrel
    obtain ⟨wo, rfl⟩ : ∃ wo : World, wo = wr := ⟨_, rfl⟩
    by_cases hlt : k < L.length
    · have hli : (k : Int) < (L.length : Int) := by omega
      go_wp2
      go_loopg [7, 8] L.length (fun gh v7 v8 wx => ∃ (q : Nat), v7 = .int .i64 (rankL L k q : Int) ∧ v8 = .int .i64 q ∧ q ≤ L.length ∧ L.length - q ≤ gh ∧ Hid (Below wo.heap.size wo wx))
      case atStart => exact ⟨0, rfl, rfl, by omega, by omega, Go.Lib.hid (Below.refl _ _)⟩
      case round =>
        obtain ⟨q, rfl, rfl, hq, hgq, HBx⟩ := hrel
        by_cases hlq : q < L.length
        · have hlz : (q : Int) < (L.length : Int) := by omega
          by_cases hqk : q = k
          · have hs := rankL_self L k
            have Hs := Go.Lib.hid hs
            have Hq := Go.Lib.hid hqk
            have hz : ((q : Int) != (k : Int)) = false := by rw [hqk]; simp
            clear hs hqk
            go_wp2
            go_roundg (L.length - (q + 1))
            case measure => omega
            case rel => exact ⟨q + 1, by rw [Hq.out, Hs.out], by go_num, by omega, by omega, HBx⟩
          · have hz : ((q : Int) != (k : Int)) = true := by simp; omega
            have hs := rankL_succ L k q
            have hle := rankL_le L k q
            have C := HS.out wr k q (HB.out.trans (HBx.out.mono HB.out.size)) hlt hlq
            have Hs := Go.Lib.hid hs
            clear hs
            by_cases hR : Rk (keyAt L) q k
            · rw [decide_eq_true hR] at C
              have HR := Go.Lib.hid hR
              clear hR hqk
              go_wp2_with (first | (go_at_call 39; refine C.mono ?_; rintro e w5 ⟨rfl, hb5⟩) | (go_at_call 40; refine (told_t _).mono ?_; rintro e w6 ⟨rfl, rfl⟩))
              go_roundg (L.length - (q + 1))
              case measure => omega
              case rel => exact ⟨q + 1, by rw [Hs.out, if_pos HR.out]; go_num, by go_num, by omega, by omega, Go.Lib.hid (HBx.out.trans (hb5.mono HBx.out.size))⟩
            · rw [decide_eq_false hR] at C
              have HR := Go.Lib.hid hR
              clear hR hqk
              go_wp2_with (first | (go_at_call 39; refine C.mono ?_; rintro e w5 ⟨rfl, hb5⟩) | (go_at_call 40; refine (told_f _).mono ?_; rintro e w6 ⟨rfl, rfl⟩))
              go_roundg (L.length - (q + 1))
              case measure => omega
              case rel => exact ⟨q + 1, by rw [Hs.out, if_neg HR.out]; go_num, by go_num, by omega, by omega, Go.Lib.hid (HBx.out.trans (hb5.mono HBx.out.size))⟩
        · have hz : ¬ ((q : Int) < (L.length : Int)) := by omega
          obtain rfl : q = L.length := by omega
          have hrl := rankL_lt hlt
          have hown := own_below' HW.out HBx.out
          have hll := HP.out.1
          have hcell := hown.cellAt (rankL L k L.length) (by omega)
          rw [ints_at _ _ (by omega)] at hcell
          obtain ⟨cv, hcv⟩ : ∃ v, wr.cell? ⟨w1.heap.size, rankL L k L.length, none⟩ = some v := ⟨_, hcell⟩
          clear hcell
          have hfr := hown.frozenAt (rankL L k L.length)
          have hst := own_store hown (rankL L k L.length) (.int .i64 k)
          rw [ints_set] at hst
          have hbs := (HB.out.trans (HBx.out.mono HB.out.size)).setCell (p := ⟨w1.heap.size, rankL L k L.length, none⟩) (hown.lt w1.heap.size rfl).1 (.int .i64 k)
          have HST := Go.Lib.hid (And.intro (HP.out.next hlt) (And.intro hst hbs))
          clear hst hown hbs hll
          generalize rankL L k L.length = R at *
          go_wp2
          go_roundg (L.length - (k + 1))
          case measure => omega
          case rel => exact ⟨k + 1, _, by go_num, by omega, by omega, Go.Lib.hid HST.out.1, Go.Lib.hid HST.out.2.1, Go.Lib.hid HST.out.2.2⟩
    · have hlz : ¬ ((k : Int) < (L.length : Int)) := by omega
      obtain rfl : k = L.length := by omega
      go_wp2
      go_ret2
      have e := ordI_of_rank HP.out.1 HP.out.2
      subst e
      exact ⟨w1.heap.size, rfl, HW.out, HB.out⟩
end Go.Proofs.YtoiondgcjbdonaaDoor
