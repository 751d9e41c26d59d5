/- Layer 5: Check, both sides. (Printed by gen_i.py.) -/
import Derived.Test.YtoiondgcjbdonaaDoorStH
namespace Go.Proofs.YtoiondgcjbdonaaDoor
set_option linter.unusedVariables false
set_option linter.unusedSimpArgs false
set_option maxRecDepth 100000
open Go.RowKit Go.Shelf Go.Lib

theorem At.ru {B : Nat} {w : World} {A : Option Addr} {l : List Ru} (h : At B w A (rus l)) {k : Nat} (hk : k < l.length) : ∃ g o, A = some ⟨g, o, none⟩ ∧ g < B ∧ w.cell? ⟨g, o + k * 14, none⟩ = some (.int .u8 (l[k].kind : Int)) ∧ w.cell? ⟨g, o + k * 14 + 1, none⟩ = some (.string l[k].cls) ∧ w.cell? ⟨g, o + k * 14 + 2, none⟩ = some (.int .u8 (l[k].st : Int)) ∧ w.cell? ⟨g, o + k * 14 + 3, none⟩ = some (.int .u8 (l[k].look.has : Int)) ∧ w.cell? ⟨g, o + k * 14 + 4, none⟩ = some (.int .u8 (l[k].look.col.r : Int)) ∧ w.cell? ⟨g, o + k * 14 + 5, none⟩ = some (.int .u8 (l[k].look.col.g : Int)) ∧ w.cell? ⟨g, o + k * 14 + 6, none⟩ = some (.int .u8 (l[k].look.col.b : Int)) ∧ w.cell? ⟨g, o + k * 14 + 7, none⟩ = some (.int .u8 (l[k].look.col.a : Int)) ∧ w.cell? ⟨g, o + k * 14 + 8, none⟩ = some (.int .u8 (l[k].look.bak.r : Int)) ∧ w.cell? ⟨g, o + k * 14 + 9, none⟩ = some (.int .u8 (l[k].look.bak.g : Int)) ∧ w.cell? ⟨g, o + k * 14 + 10, none⟩ = some (.int .u8 (l[k].look.bak.b : Int)) ∧ w.cell? ⟨g, o + k * 14 + 11, none⟩ = some (.int .u8 (l[k].look.bak.a : Int)) ∧ w.cell? ⟨g, o + k * 14 + 12, none⟩ = some (.bool l[k].look.brd) ∧ w.cell? ⟨g, o + k * 14 + 13, none⟩ = some (.int .i64 l[k].look.pad) := by
  obtain ⟨g, o, hA, hg, hc⟩ := h (by rw [rus_len]; omega)
  have q : ∀ j, j < 14 → ∀ v, (ruC l[k])[j]? = some v → w.cell? ⟨g, o + k * 14 + j, none⟩ = some v := fun j hj v hv => by
    rw [Nat.add_assoc]; exact hc _ _ ((rus_at l k j hk hj).trans hv)
  exact ⟨g, o, hA, hg, q 0 (by omega) _ rfl, q 1 (by omega) _ rfl, q 2 (by omega) _ rfl, q 3 (by omega) _ rfl, q 4 (by omega) _ rfl, q 5 (by omega) _ rfl, q 6 (by omega) _ rfl, q 7 (by omega) _ rfl, q 8 (by omega) _ rfl, q 9 (by omega) _ rfl, q 10 (by omega) _ rfl, q 11 (by omega) _ rfl, q 12 (by omega) _ rfl, q 13 (by omega) _ rfl⟩
theorem okAll_take (L : List Ru) (k : Nat) (h : k < L.length) : okAll (L.take (k + 1)) = (okAll (L.take k) && okR L[k]) := by
  rw [List.take_succ_eq_append_getElem h]
  simp only [okAll, List.all_append, List.all_cons, List.all_nil, Bool.and_true]
theorem okAll_no {L : List Ru} {k : Nat} (h : k < L.length) (hm : okR L[k] = false) : okAll L = false := by
  rw [Bool.eq_false_iff]
  intro ha
  have := (List.all_eq_true.1 ha) L[k] (List.getElem_mem h)
  rw [hm] at this
  cases this
theorem okR_eq (r : Ru) : okR r = (decide (r.kind ≤ 10) && (decide (r.cls.size ≤ 64) && (!hasBlank r.cls.data.toList && (Lib.validD r.cls.data.toList && (decide (r.st ≤ 15) && mayL r.look))))) := rfl
def okSix (a b c d e f : Bool) : Bool := a && (b && (!c && (d && (e && f))))

set_option maxHeartbeats 4000000 in
set_option maxRecDepth 1000000 in
theorem Check_any (B : Nat) (A : Option Addr) (c : Nat) (L : List Ru) (hin : ∀ r ∈ L, r.In) (w : World) (hT : Tabs w) (hA : At B w A (rus L)) (hB : B ≤ w.heap.size) (hl : L.length ≤ 9000000000000000000) :
    Calls Tryd.prog 20 #[.slice A L.length c] w fun e w' => e = .returned (.int .i64 (chkE L)) ∧ Below w.heap.size w w' := by
  have HT := Go.Lib.hid hT
  clear hT
  by_cases hbig : 256 < L.length
  · rw [show chkE L = 4 by simp [chkE, hbig]]
    have hb : (256 : Int) < (L.length : Int) := by omega
    go_enter Tryd.func20, Tryd.ntmps20
    go_wp2
    go_ret
    exact ⟨rfl, (by repeat (first | exact Below.refl _ _ | with_reducible refine Below.alloc ?_ (by first | (simp; done) | (simp; omega) | omega) _ | with_reducible refine Below.setCell ?_ (by first | (simp; done) | (simp; omega) | omega) _ | with_reducible refine Below.drew ?_ | with_reducible refine Below.trans ?_ (Below.mono (by assumption) (by first | (simp; done) | (simp; omega) | omega))))⟩
  · have hb : (L.length : Int) ≤ 256 := by omega
    have HO := Go.Lib.hid hin
    clear hin
    go_enter Tryd.func20, Tryd.ntmps20
    go_wp2
    go_loopw [10] (fun i wr => ∃ k : Nat, k ≤ L.length ∧ i = .int .i64 k ∧ Hid (okAll (L.take k) = true) ∧ Below w.heap.size w wr) (fun i _ => L.length - (intOf i).toNat)
    case atStart => exact ⟨0, by omega, rfl, Go.Lib.hid rfl, Below.refl _ _⟩
    case round =>
      obtain ⟨k, hk, rfl, HP, hbr⟩ := hrel
      have hsr := hbr.size
      by_cases hlt : k < L.length
      · have hli : (k : Int) < (L.length : Int) := by omega
        obtain ⟨g, o, rfl, hg, c0, c1, c2, c3, c4, c5, c6, c7, c8, c9, c10, c11, c12, c13⟩ := (hA.below (hbr.mono hB)).ru hlt
        have hsu := okAll_take L k hlt
        have hno := fun h => okAll_no (L := L) hlt h
        obtain ⟨i1, i2, i3, i4⟩ := HO.out _ (List.getElem_mem hlt)
        have heq := okR_eq L[k]
        generalize L[k] = r at *
        have HC : Hid (∀ w, Calls Tryd.prog 42 #[.string r.cls, .string { data := #[32] }] w fun e w' => e = .returned (.bool (hasBlank r.cls.data.toList)) ∧ w = w') := Go.Lib.hid fun w => cont_any _ w
        have HV : Hid (∀ w, Tabs w → Calls Tryd.prog 43 #[.string r.cls] w fun e w' => e = .returned (.bool (Lib.validD r.cls.data.toList)) ∧ Below w.heap.size w w') := Go.Lib.hid fun w h => valid_any _ w h i4
        have HM : Hid (∀ w, Calls Tryd.prog 44 #[.agg #[.int .u8 (r.look.has : Int), .int .u8 (r.look.col.r : Int), .int .u8 (r.look.col.g : Int), .int .u8 (r.look.col.b : Int), .int .u8 (r.look.col.a : Int), .int .u8 (r.look.bak.r : Int), .int .u8 (r.look.bak.g : Int), .int .u8 (r.look.bak.b : Int), .int .u8 (r.look.bak.a : Int), .bool r.look.brd, .int .i64 r.look.pad]] w fun e w' => e = .returned (.bool (mayL r.look)) ∧ Below w.heap.size w w') := Go.Lib.hid fun w => may_any _ i3.1 w
        generalize hasBlank r.cls.data.toList = qb at *
        generalize Lib.validD r.cls.data.toList = qv at *
        generalize mayL r.look = qm at *
        have HS := Go.Lib.hid hsu
        have HN := Go.Lib.hid hno
        have HE := Go.Lib.hid heq
        clear hsu hno heq i1 i2 i3
        cases qm
        all_goals
          go_wp2_with (first | (go_at_call 42; refine (HC.out _).mono ?_; rintro e w' ⟨rfl, rfl⟩) | (go_at_call 43; refine (HV.out _ (tabs_on (tabs_on HT.out hbr) (Below.alloc (Below.refl _ _) (Nat.le_refl _) _))).mono ?_; rintro e w5 ⟨rfl, hb5⟩; obtain ⟨hc5, hf5⟩ := bcell hb5; have hs5 := hb5.size; (try simp at hs5); have z5 : wr.heap.size < wr.heap.size + 1 := (by omega); have y5 : wr.heap.size < w5.heap.size := (by omega)) | (go_at_call 44; refine (HM.out _).mono ?_; rintro e w6 ⟨rfl, hb6⟩))
          all_goals
            first
              | (go_roundw
                 case rel => exact ⟨k + 1, by omega, by go_num, Go.Lib.hid (by rw [HS.out, HP.out, HE.out]; simp [show r.kind ≤ 10 by omega, show r.cls.size ≤ 64 by omega, show r.st ≤ 15 by omega, *]), (by repeat (first | assumption | exact Below.refl _ _ | with_reducible refine Below.alloc ?_ (by first | (simp; done) | (simp; omega) | omega) _ | with_reducible refine Below.trans ?_ (Below.mono (by assumption) (by first | (simp; done) | (simp; omega) | omega))))⟩
                 case measure => simp [intOf]; omega)
              | (go_ret
                 refine ⟨ret_int ?_, (by repeat (first | assumption | exact Below.refl _ _ | with_reducible refine Below.alloc ?_ (by first | (simp; done) | (simp; omega) | omega) _ | with_reducible refine Below.trans ?_ (Below.mono (by assumption) (by first | (simp; done) | (simp; omega) | omega))))⟩
                 simp [chkE, hbig, HN.out (by rw [HE.out]; (first | (simp [show ¬ (r.kind ≤ 10) by omega]; done) | (simp [show ¬ (r.cls.size ≤ 64) by omega]; done) | (simp [show ¬ (r.st ≤ 15) by omega]; done) | (simp [*]; done)))])
      · have hlt' : ¬ ((k : Int) < (L.length : Int)) := by omega
        have hkl : k = L.length := by omega
        go_wp2
        go_ret
        refine ⟨ret_int ?_, hbr⟩
        have := HP.out
        rw [hkl, List.take_length] at this
        simp [chkE, hbig, this]

set_option maxHeartbeats 4000000 in
set_option maxRecDepth 1000000 in
theorem rCheck_any (B : Nat) (A : Option Addr) (c : Nat) (L : List Ru) (hin : ∀ r ∈ L, r.In) (w : World) (hT : Tabs w) (hA : At B w A (rus L)) (hB : B ≤ w.heap.size) (hl : L.length ≤ 9000000000000000000) :
    Calls Tryd.prog 21 #[.slice A L.length c] w fun e w' => e = .returned (.int .i64 (chkE L)) ∧ Below w.heap.size w w' := by
  have HT := Go.Lib.hid hT
  clear hT
  by_cases hbig : 256 < L.length
  · rw [show chkE L = 4 by simp [chkE, hbig]]
    have hb : (256 : Int) < (L.length : Int) := by omega
    go_enter Tryd.func21, Tryd.ntmps21
    go_wp2
    go_ret
    exact ⟨rfl, (by repeat (first | exact Below.refl _ _ | with_reducible refine Below.alloc ?_ (by first | (simp; done) | (simp; omega) | omega) _ | with_reducible refine Below.setCell ?_ (by first | (simp; done) | (simp; omega) | omega) _ | with_reducible refine Below.drew ?_ | with_reducible refine Below.trans ?_ (Below.mono (by assumption) (by first | (simp; done) | (simp; omega) | omega))))⟩
  · have hb : (L.length : Int) ≤ 256 := by omega
    have HO := Go.Lib.hid hin
    clear hin
    go_enter Tryd.func21, Tryd.ntmps21
    go_wp2
    go_loopw [3] (fun i wr => ∃ k : Nat, k ≤ L.length ∧ i = .int .i64 k ∧ Hid (okAll (L.take k) = true) ∧ Below w.heap.size w wr) (fun i _ => L.length - (intOf i).toNat)
    case atStart => exact ⟨0, by omega, rfl, Go.Lib.hid rfl, Below.refl _ _⟩
    case round =>
      obtain ⟨k, hk, rfl, HP, hbr⟩ := hrel
      have hsr := hbr.size
      by_cases hlt : k < L.length
      · have hli : (k : Int) < (L.length : Int) := by omega
        obtain ⟨g, o, rfl, hg, c0, c1, c2, c3, c4, c5, c6, c7, c8, c9, c10, c11, c12, c13⟩ := (hA.below (hbr.mono hB)).ru hlt
        have hsu := okAll_take L k hlt
        have hno := fun h => okAll_no (L := L) hlt h
        obtain ⟨i1, i2, i3, i4⟩ := HO.out _ (List.getElem_mem hlt)
        have heq := okR_eq L[k]
        generalize L[k] = r at *
        have HC : Hid (∀ w, Calls Tryd.prog 46 #[.string r.cls] w fun e w' => e = .returned (.bool (hasBlank r.cls.data.toList)) ∧ w = w') := Go.Lib.hid fun w => rblank_any _ w i4
        have HV : Hid (∀ w, Tabs w → Calls Tryd.prog 43 #[.string r.cls] w fun e w' => e = .returned (.bool (Lib.validD r.cls.data.toList)) ∧ Below w.heap.size w w') := Go.Lib.hid fun w h => valid_any _ w h i4
        have HM : Hid (∀ w, Calls Tryd.prog 45 #[.agg #[.int .u8 (r.look.has : Int), .int .u8 (r.look.col.r : Int), .int .u8 (r.look.col.g : Int), .int .u8 (r.look.col.b : Int), .int .u8 (r.look.col.a : Int), .int .u8 (r.look.bak.r : Int), .int .u8 (r.look.bak.g : Int), .int .u8 (r.look.bak.b : Int), .int .u8 (r.look.bak.a : Int), .bool r.look.brd, .int .i64 r.look.pad]] w fun e w' => e = .returned (.bool (mayL r.look)) ∧ Below w.heap.size w w') := Go.Lib.hid fun w => rmay_any _ i3.1 w
        generalize hasBlank r.cls.data.toList = qb at *
        generalize Lib.validD r.cls.data.toList = qv at *
        generalize mayL r.look = qm at *
        have HS := Go.Lib.hid hsu
        have HN := Go.Lib.hid hno
        have HE := Go.Lib.hid heq
        clear hsu hno heq i1 i2 i3
        cases qm
        all_goals
          go_wp2_with (first | (go_at_call 46; refine (HC.out _).mono ?_; rintro e w' ⟨rfl, rfl⟩) | (go_at_call 43; refine (HV.out _ (tabs_on (tabs_on HT.out hbr) ((Below.alloc (Below.refl _ _) (Nat.le_refl _) _).trans (hb5.mono (by simp))))).mono ?_; rintro e w6 ⟨rfl, hb6⟩; obtain ⟨hc6, hf6⟩ := bcell hb6; have hs6 := hb6.size) | (go_at_call 45; refine (HM.out _).mono ?_; rintro e w5 ⟨rfl, hb5⟩; obtain ⟨hc5, hf5⟩ := bcell hb5; have hs5 := hb5.size; (try simp at hs5); have z5 : wr.heap.size < wr.heap.size + 1 := (by omega); have y5 : wr.heap.size < w5.heap.size := (by omega)))
          all_goals
            first
              | (go_roundw
                 case rel => exact ⟨k + 1, by omega, by go_num, Go.Lib.hid (by rw [HS.out, HP.out, HE.out]; simp [show r.kind ≤ 10 by omega, show r.cls.size ≤ 64 by omega, show r.st ≤ 15 by omega, *]), (by repeat (first | assumption | exact Below.refl _ _ | with_reducible refine Below.alloc ?_ (by first | (simp; done) | (simp; omega) | omega) _ | with_reducible refine Below.trans ?_ (Below.mono (by assumption) (by first | (simp; done) | (simp; omega) | omega))))⟩
                 case measure => simp [intOf]; omega)
              | (go_ret
                 refine ⟨ret_int ?_, (by repeat (first | assumption | exact Below.refl _ _ | with_reducible refine Below.alloc ?_ (by first | (simp; done) | (simp; omega) | omega) _ | with_reducible refine Below.trans ?_ (Below.mono (by assumption) (by first | (simp; done) | (simp; omega) | omega))))⟩
                 simp [chkE, hbig, HN.out (by rw [HE.out]; (first | (simp [show ¬ (r.kind ≤ 10) by omega]; done) | (simp [show ¬ (r.cls.size ≤ 64) by omega]; done) | (simp [show ¬ (r.st ≤ 15) by omega]; done) | (simp [*]; done)))])
      · have hlt' : ¬ ((k : Int) < (L.length : Int)) := by omega
        have hkl : k = L.length := by omega
        go_wp2
        go_ret
        refine ⟨ret_int ?_, hbr⟩
        have := HP.out
        rw [hkl, List.take_length] at this
        simp [chkE, hbig, this]
end Go.Proofs.YtoiondgcjbdonaaDoor
