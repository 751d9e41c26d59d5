/- Layer 5: Order: the walk. -/
import Derived.Test.YtoiondgcjbdonaaDoorStK
namespace Go.Proofs.YtoiondgcjbdonaaDoor
set_option linter.unusedVariables false
set_option linter.unusedSimpArgs false
set_option maxRecDepth 100000
open Go.RowKit Go.Shelf Go.Lib Go.Sort

/-- The numbers of the rules, the weakest first. -/
def ordN (L : List Ru) : List Nat := ordL (keyAt L) L.length
def ordI (L : List Ru) : List Int := (ordN L).map Int.ofNat
theorem ordI_len (L : List Ru) : (ordI L).length = L.length := by simp [ordI, ordN, ordL_len]
def OrdE (L : List Ru) (W : World) (e : Ending) (w' : World) : Prop := ∃ g, e = .returned (.tuple #[.slice (some ⟨g, 0, none⟩) L.length L.length, .int .i64 0]) ∧
  w'.ownsRow W.heap.size 3 1 (.slice (some ⟨g, 0, none⟩) L.length L.length) L.length (ints (ordI L)) ∧ Below W.heap.size W w'
theorem chk_ok {L : List Ru} (h : chkE L = 0) : L.length ≤ 256 ∧ okAll L = true := by
  unfold chkE at h
  split at h
  · cases h
  · split at h
    · next g => exact ⟨by omega, g⟩
    · cases h
theorem chk_len {L : List Ru} (h : chkE L = 0) : L.length ≤ 256 := (chk_ok h).1

set_option maxHeartbeats 1000000 in
set_option maxRecDepth 1000000 in
theorem Order_bad (B : Nat) (A : Option Addr) (c : Nat) (L : List Ru) (hin : ∀ r ∈ L, r.In) (w : World) (hT : Tabs w) (hA : At B w A (rus L)) (hB : B ≤ w.heap.size) (hl : L.length ≤ 9000000000000000000) (hc : chkE L ≠ 0) :
    Calls Tryd.prog 12 #[.slice A L.length c] w fun e w' => e = .returned (.tuple #[.slice none 0 0, .int .i64 (chkE L)]) ∧ Below w.heap.size w w' := by
  have C : ∀ w1, Below w.heap.size w w1 → Calls Tryd.prog 20 #[.slice A L.length c] w1 fun e w' => e = .returned (.int .i64 (chkE L)) ∧ Below w1.heap.size w1 w' := fun w1 h =>
    Check_any w.heap.size A c L hin w1 (tabs_on hT h) ((hA.mono hB).below h) h.size hl
  generalize chkE L = E at *
  have HC := Go.Lib.hid hc
  have hz : (E != 0) = true := by simpa using hc
  clear hc hA hT
  go_enter Tryd.func12, Tryd.ntmps12
  go_wp2_with (go_at_call 20; refine (C _ (by repeat (first | exact Below.refl _ _ | with_reducible refine Below.alloc ?_ (by first | (simp; done) | (simp; omega) | omega) _ | with_reducible refine Below.setCell ?_ (by first | (simp; done) | (simp; omega) | omega) _ | with_reducible refine Below.drew ?_ | with_reducible refine Below.trans ?_ (Below.mono (by assumption) (by first | (simp; done) | (simp; omega) | omega))))).mono ?_; rintro e w1 ⟨rfl, hb1⟩)
  go_ret2
  exact ⟨rfl, (by repeat (first | exact Below.refl _ _ | with_reducible refine Below.alloc ?_ (by first | (simp; done) | (simp; omega) | omega) _ | with_reducible refine Below.setCell ?_ (by first | (simp; done) | (simp; omega) | omega) _ | with_reducible refine Below.drew ?_ | with_reducible refine Below.trans ?_ (Below.mono (by assumption) (by first | (simp; done) | (simp; omega) | omega))))⟩

set_option maxHeartbeats 4000000 in
set_option maxRecDepth 1000000 in
theorem Order_ok (B : Nat) (A : Option Addr) (c : Nat) (L : List Ru) (hin : ∀ r ∈ L, r.In) (w : World) (hT : Tabs w) (hA : At B w A (rus L)) (hB : B ≤ w.heap.size) (hc : chkE L = 0) :
    Calls Tryd.prog 12 #[.slice A L.length c] w (OrdE L w) := by
  have hl := chk_len hc
  have C : ∀ w1, Below w.heap.size w w1 → Calls Tryd.prog 20 #[.slice A L.length c] w1 fun e w' => e = .returned (.int .i64 0) ∧ Below w1.heap.size w1 w' := fun w1 h =>
    hc ▸ Check_any w.heap.size A c L hin w1 (tabs_on hT h) ((hA.mono hB).below h) h.size (by omega)
  have HC := Go.Lib.hid C
  have HN := Go.Lib.hid hin
  have HA := Go.Lib.hid (hA.mono hB)
  clear hc hT C hA hin
  go_enter Tryd.func12, Tryd.ntmps12
  go_wp2_with fail
  refine (HC.out _ (by repeat (first | exact Below.refl _ _ | with_reducible refine Below.alloc ?_ (by first | (simp; done) | (simp; omega) | omega) _ | with_reducible refine Below.setCell ?_ (by first | (simp; done) | (simp; omega) | omega) _ | with_reducible refine Below.drew ?_ | with_reducible refine Below.trans ?_ (Below.mono (by assumption) (by first | (simp; done) | (simp; omega) | omega))))).mono ?_
  rintro e w1 ⟨rfl, hb1⟩
  obtain ⟨hc1, hf1⟩ := bcell hb1
  have hs1 := hb1.size
  (try simp at hs1)
  have z1 : w.heap.size < w.heap.size + 1 := by omega
  have y1 : w.heap.size < w1.heap.size := by omega
  go_wp2_with (first | (at_make; refine make_ints rfl (.tmp 14) (.tmp 14) rfl w.heap.size L.length rfl rfl ?_ ?_ ?_))
  · omega
  · omega
  intro w2 hown2 hgr2
  have hb2 : Below w1.heap.size w1 w2 := (Below.refl _ _).grown hgr2 (Nat.le_refl _) (fun k hk => by cases hk)
  rw [replicate_range] at hown2
  clear hgr2
  have hlt2 : w1.heap.size < w2.heap.size := (hown2.lt _ rfl).2
  have hcb : w1.cell? ⟨w.heap.size, 0, none⟩ = some (.slice A L.length c) := by rw [hc1 _ _ (by simp)]; simp
  have hcb2 : w2.cell? ⟨w.heap.size, 0, none⟩ = some (.slice A L.length c) := by rw [(bcell hb2).1 _ _ y1]; exact hcb
  have hbw : Below w.heap.size w w2 := ((Below.refl _ _).alloc (Nat.le_refl _) _).trans ((hb1.mono (by simp)).trans (hb2.mono (by omega)))
  have hbx : Below w.heap.size w (w2.alloc (.cells #[.slice (some ⟨w1.heap.size, 0, none⟩) L.length L.length] 25)) := hbw.alloc (by omega) _
  have hown3 := own_below' hown2 ((Below.refl _ _).alloc (Nat.le_refl _) (.cells #[.slice (some ⟨w1.heap.size, 0, none⟩) L.length L.length] 25))
  clear hown2 hb1 hc1 hf1 hb2 hbw
  have HX := Go.Lib.hid (And.intro hbx hown3)
  clear hbx hown3
  have hol : w1.heap.size ≠ w2.heap.size := by omega
  have hll : w1.heap.size ≠ w.heap.size := by omega
  go_wp2
  go_loopw [18] (fun i wr => ∃ k : Nat, k ≤ L.length ∧ i = .int .i64 k ∧ wr.ownsRow w.heap.size 3 1 (.slice (some ⟨w1.heap.size, 0, none⟩) L.length L.length) L.length (ints ((List.range L.length).map fun i => if i < k then (i : Int) else 0)) ∧
    wr.cell? ⟨w2.heap.size, 0, none⟩ = some (.slice (some ⟨w1.heap.size, 0, none⟩) L.length L.length) ∧ wr.cell? ⟨w.heap.size, 0, none⟩ = some (.slice A L.length c) ∧ Below w.heap.size w wr) (fun i _ => L.length - (intOf i).toNat)
  case atStart => exact ⟨0, by omega, rfl, by simpa using HX.out.2, by simp, (((Below.refl w2.heap.size w2).alloc (Nat.le_refl _) _).cell (p := ⟨w.heap.size, 0, none⟩) (by show w.heap.size < _; omega)).trans hcb2, HX.out.1⟩
  case round =>
    clear hcb hcb2
    obtain ⟨k, hk, rfl, hown, ho, hlb, hbr⟩ := hrel
    by_cases hlt : k < L.length
    · have hli : (k : Int) < (L.length : Int) := by omega
      have hcell := hown.cellAt k (by omega)
      rw [ints_at _ k (by simpa using hlt)] at hcell
      have hfr := hown.frozenAt k
      have hst := own_store hown k (.int .i64 k)
      rw [ints_set, set_range] at hst
      have hpe : ((List.range L.length).map fun i => if i = k then (k : Int) else if i < k then (i : Int) else 0) = (List.range L.length).map fun i => if i < k + 1 then (i : Int) else 0 := map_range_congr fun i _ => by
        by_cases e : i = k
        · subst e
          simp
        · have : (i < k + 1) = (i < k) := by simp; omega
          simp [e, this]
      rw [hpe] at hst
      have hbs := hbr.setCell (p := ⟨w1.heap.size, k, none⟩) (hown.lt w1.heap.size rfl).1 (.int .i64 k)
      have ho2 : (wr.setCell ⟨w1.heap.size, k, none⟩ (.int .i64 k)).cell? ⟨w2.heap.size, 0, none⟩ = some (.slice (some ⟨w1.heap.size, 0, none⟩) L.length L.length) := by
        rw [World.cell?_setCell_other]
        · exact ho
        · intro h; exact hol (congrArg Addr.block h)
      have hl2 : (wr.setCell ⟨w1.heap.size, k, none⟩ (.int .i64 k)).cell? ⟨w.heap.size, 0, none⟩ = some (.slice A L.length c) := by
        rw [World.cell?_setCell_other]
        · exact hlb
        · intro h; exact hll (congrArg Addr.block h)
      have HST := Go.Lib.hid (And.intro hst (And.intro ho2 (And.intro hl2 hbs)))
      clear hst hpe hown hbs ho2 hl2
      go_wp2
      go_roundw
      case rel => exact ⟨k + 1, by omega, by go_num, HST.out⟩
      case measure => simp [intOf]; omega
    · have hlt' : ¬ ((k : Int) < (L.length : Int)) := by omega
      obtain rfl : k = L.length := by omega
      have e : ((List.range L.length).map fun i => if i < L.length then (i : Int) else 0) = (List.range L.length).map Int.ofNat := map_range_congr fun i hi => by rw [if_pos (by omega)]; rfl
      rw [e] at hown
      have hat : At w1.heap.size wr A (rus L) := (HA.out.below hbr).mono (hown.lt w1.heap.size rfl).1
      have q := sorted_any L HN.out A c L.length w.heap.size w2.heap.size w1.heap.size w.heap.size wr hl hown hlb ho (Ne.symm hll) (Ne.symm hol) hat
      have HO := Go.Lib.hid hown
      clear e hown hat
      have HW : Hid (∀ d w4, SW (encN L.length) wr w1.heap.size 0 d w4 → w4.cell? ⟨w2.heap.size, 0, none⟩ = some (.slice (some ⟨w1.heap.size, 0, none⟩) L.length L.length)) := Go.Lib.hid fun d w4 hs => (sw_cell hs (World.block_lt_of_cell? _ _ ho) (Ne.symm hol) 0).trans ho
      have HK := Go.Lib.hid hbr
      go_wp2_with (go_at_call 35; refine q.mono ?_; rintro e w4 ⟨rfl, d, hd, hdl, hsw⟩; have ho4 := HW.out _ _ hsw; have HD := Go.Lib.hid (And.intro hd (And.intro hdl hsw)); clear hd hdl hsw)
      go_ret2
      obtain ⟨hd, hdl, hsw⟩ := HD.out
      have hw := sw_owns HO.out hsw hd rfl (fun x hx => by rw [hdl] at hx; exact (ordL_mem _ _ _).1 hx)
      rw [hdl] at hw
      exact ⟨w1.heap.size, rfl, hw, HK.out.trans (sw_below hsw (by omega) HK.out.size)⟩
end Go.Proofs.YtoiondgcjbdonaaDoor
