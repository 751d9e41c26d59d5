/- Layer 7: says, checks and Says of both sides. (Printed by wrap/gen_c.py.) -/
import Derived.Test.YtfieldhlgipimaaDoorWrB
import Derived.Test.YtfieldhlgipimaaDoorMem
namespace Go.Proofs.YtfieldhlgipimaaDoor
set_option linter.unusedVariables false
set_option linter.unusedSimpArgs false
set_option maxRecDepth 100000
open Go.RowKit

structure Wr where
  k : Int
  m : Int
  n : Int
  s : ByteArray
def wrs : List Wr → List Value
  | [] => []
  | c :: l => .int .u8 c.k :: .int .u16 c.m :: .int .i64 c.n :: .string c.s :: wrs l
theorem wrs_len (l : List Wr) : (wrs l).length = l.length * 4 := by
  induction l with
  | nil => rfl
  | cons r l ih => simp [wrs, ih]; omega
theorem wrs_at (l : List Wr) (k : Nat) (h : k < l.length) : (wrs l)[k * 4]? = some (.int .u8 l[k].k) ∧ (wrs l)[k * 4 + 1]? = some (.int .u16 l[k].m) ∧ (wrs l)[k * 4 + 2]? = some (.int .i64 l[k].n) ∧ (wrs l)[k * 4 + 3]? = some (.string l[k].s) := by
  induction l generalizing k with
  | nil => simp at h
  | cons r l ih =>
    cases k with
    | zero => simp [wrs]
    | succ k =>
      have := ih k (by simpa using h)
      have e : (k + 1) * 4 = k * 4 + 4 := by omega
      rw [e]
      simpa [wrs] using this
theorem At.wr {B : Nat} {w : World} {A : Option Addr} {l : List Wr} (h : At B w A (wrs l)) {k : Nat} (hk : k < l.length) : ∃ g o, A = some ⟨g, o, none⟩ ∧ g < B ∧ w.cell? ⟨g, o + k * 4, none⟩ = some (.int .u8 l[k].k) ∧ w.cell? ⟨g, o + k * 4 + 1, none⟩ = some (.int .u16 l[k].m) ∧ w.cell? ⟨g, o + k * 4 + 2, none⟩ = some (.int .i64 l[k].n) ∧ w.cell? ⟨g, o + k * 4 + 3, none⟩ = some (.string l[k].s) := by
  obtain ⟨g, o, hA, hg, hc⟩ := h (by rw [wrs_len]; omega)
  obtain ⟨h0, h1, h2, h3⟩ := wrs_at l k hk
  exact ⟨g, o, hA, hg, hc _ _ h0, by rw [Nat.add_assoc]; exact hc _ _ h1, by rw [Nat.add_assoc]; exact hc _ _ h2, by rw [Nat.add_assoc]; exact hc _ _ h3⟩
def Wr.ok (t : Wr) : Prop := (0 ≤ t.k ∧ t.k ≤ 255) ∧ (0 ≤ t.m ∧ t.m ≤ 65535) ∧ t.s.size ≤ 9223372036854775807
def okW (t : Wr) : Bool := okWr t.k t.m t.n t.s
theorem chk_of {t : Wr} {v : Bool} (h : okW t = v) : chkW t.k t.m t.n t.s = if v then 0 else 70 := by subst h; rfl
def allW (L : List Wr) : Bool := L.all okW
def chkL (L : List Wr) : Int := if 16 < L.length then 4 else if allW L then 0 else 70
theorem allW_take (L : List Wr) (k : Nat) (h : k < L.length) : allW (L.take (k + 1)) = (allW (L.take k) && okW L[k]) := by
  rw [List.take_succ_eq_append_getElem h]
  simp only [allW, List.all_append, List.all_cons, List.all_nil, Bool.and_true]
theorem allW_no {L : List Wr} {k : Nat} (h : k < L.length) (hm : okW L[k] = false) : allW L = false := by
  rw [Bool.eq_false_iff]
  intro ha
  have := (List.all_eq_true.1 ha) L[k] (List.getElem_mem h)
  rw [hm] at this
  cases this
def saysW (c : Int) (t : Wr) : Int :=
  if t.k = 1 then c - andI c t.m else if t.k = 2 then andI c t.m else if t.k = 5 then orI c 4 else if t.k = 6 then orI c 16 else if t.k = 7 then 0 else c
theorem saysW_bd {c : Int} (t : Wr) (h : 0 ≤ c ∧ c ≤ 65535) : 0 ≤ saysW c t ∧ saysW c t ≤ 65535 := by
  have h1 := andI_bd (m := t.m) h
  have h2 := orI_bd c 4
  have h3 := orI_bd c 16
  unfold saysW
  split
  · omega
  · split
    · omega
    · split
      · omega
      · split
        · omega
        · split <;> omega

set_option maxHeartbeats 2000000 in
set_option maxRecDepth 1000000 in
theorem says_any (c : Int) (t : Wr) (w : World) (hc : 0 ≤ c ∧ c ≤ 65535) :
    Calls Tryd.prog 9 #[.int .u16 c, .agg #[.int .u8 t.k, .int .u16 t.m, .int .i64 t.n, .string t.s]] w fun e w' => e = .returned (.int .u16 (saysW c t)) ∧ Below w.heap.size w w' := by
  obtain ⟨k, m, n, s⟩ := t
  have h1 := andNot16 m hc
  have h2 := and16 c m
  have h3 := or16 c 4
  have h4 := or16 c 16
  have h5 := andI_bd (m := m) hc
  obtain ⟨K, hK⟩ : ∃ K, saysW c ⟨k, m, n, s⟩ = K := ⟨_, rfl⟩
  rw [hK]
  unfold saysW at hK
  simp only at hK
  generalize andI c m = a at *
  generalize orI c 4 = o4 at *
  generalize orI c 16 = o6 at *
  have HK := Go.Lib.hid hK
  clear hK
  go_enter Tryd.func9, Tryd.ntmps9
  go_wp2
  all_goals
    go_ret
    exact ⟨ret_int (by have hK := HK.out; subst hK; simp_all), (by repeat (first | exact Below.refl _ _ | with_reducible refine Below.alloc ?_ (by first | (simp; done) | (simp; omega) | omega) _ | with_reducible refine Below.setCell ?_ (by first | (simp; done) | (simp; omega) | omega) _ | with_reducible refine Below.drew ?_ | with_reducible refine Below.trans ?_ (Below.mono (by assumption) (by first | (simp; done) | (simp; omega) | omega))))⟩

set_option maxHeartbeats 2000000 in
set_option maxRecDepth 1000000 in
theorem rsays_any (c : Int) (t : Wr) (w : World) (hc : 0 ≤ c ∧ c ≤ 65535) :
    Calls Tryd.prog 11 #[.int .u16 c, .agg #[.int .u8 t.k, .int .u16 t.m, .int .i64 t.n, .string t.s]] w fun e w' => e = .returned (.int .u16 (saysW c t)) ∧ Below w.heap.size w w' := by
  obtain ⟨k, m, n, s⟩ := t
  have h1 := andNot16 m hc
  have h2 := and16 c m
  have h3 := or16 c 4
  have h4 := or16 c 16
  have h5 := andI_bd (m := m) hc
  obtain ⟨K, hK⟩ : ∃ K, saysW c ⟨k, m, n, s⟩ = K := ⟨_, rfl⟩
  rw [hK]
  unfold saysW at hK
  simp only at hK
  generalize andI c m = a at *
  generalize orI c 4 = o4 at *
  generalize orI c 16 = o6 at *
  have HK := Go.Lib.hid hK
  clear hK
  go_enter Tryd.func11, Tryd.ntmps11
  go_wp2
  all_goals
    go_ret
    exact ⟨ret_int (by have hK := HK.out; subst hK; simp_all), (by repeat (first | exact Below.refl _ _ | with_reducible refine Below.alloc ?_ (by first | (simp; done) | (simp; omega) | omega) _ | with_reducible refine Below.setCell ?_ (by first | (simp; done) | (simp; omega) | omega) _ | with_reducible refine Below.drew ?_ | with_reducible refine Below.trans ?_ (Below.mono (by assumption) (by first | (simp; done) | (simp; omega) | omega))))⟩

set_option maxHeartbeats 2000000 in
set_option maxRecDepth 1000000 in
theorem checks_any (B : Nat) (A : Option Addr) (c : Nat) (L : List Wr) (hok : ∀ t ∈ L, t.ok) (w : World) (hT : Tabs w) (hA : At B w A (wrs L)) (hB : B ≤ w.heap.size) (hl : L.length ≤ 9000000000000000000) :
    Calls Tryd.prog 8 #[.slice A L.length c] w fun e w' => e = .returned (.int .i64 (chkL L)) ∧ Below w.heap.size w w' := by
  have HT := Go.Lib.hid hT
  clear hT
  by_cases hbig : 16 < L.length
  · rw [show chkL L = 4 by simp [chkL, hbig]]
    have hb : (16 : Int) < (L.length : Int) := by omega
    go_enter Tryd.func8, Tryd.ntmps8
    go_wp2
    go_ret
    exact ⟨rfl, (by repeat (first | exact Below.refl _ _ | with_reducible refine Below.alloc ?_ (by first | (simp; done) | (simp; omega) | omega) _ | with_reducible refine Below.setCell ?_ (by first | (simp; done) | (simp; omega) | omega) _ | with_reducible refine Below.drew ?_ | with_reducible refine Below.trans ?_ (Below.mono (by assumption) (by first | (simp; done) | (simp; omega) | omega))))⟩
  · have hb : (L.length : Int) ≤ 16 := by omega
    have HO := Go.Lib.hid hok
    clear hok
    go_enter Tryd.func8, Tryd.ntmps8
    go_wp2
    go_loopw [11] (fun i wr => ∃ k : Nat, k ≤ L.length ∧ i = .int .i64 k ∧ Hid (allW (L.take k) = true) ∧ Below w.heap.size w wr) (fun i _ => L.length - (intOf i).toNat)
    case atStart => exact ⟨0, by omega, rfl, Go.Lib.hid rfl, Below.refl _ _⟩
    case round =>
      obtain ⟨k, hk, rfl, HP, hbr⟩ := hrel
      have hsr := hbr.size
      by_cases hlt : k < L.length
      · have hli : (k : Int) < (L.length : Int) := by omega
        obtain ⟨g, o, rfl, hg, c0, c1, c2, c3⟩ := (hA.below (hbr.mono hB)).wr hlt
        have hsu := allW_take L k hlt
        have hno := fun h => allW_no (L := L) hlt h
        have hto := HO.out _ (List.getElem_mem hlt)
        generalize L[k] = t at *
        have HS := Go.Lib.hid hsu
        have HN := Go.Lib.hid hno
        have HC : Hid (∀ w, Tabs w → Calls Tryd.prog 6 #[.agg #[.int .u8 t.k, .int .u16 t.m, .int .i64 t.n, .string t.s]] w fun e w' => e = .returned (.int .i64 (chkW t.k t.m t.n t.s)) ∧ Below w.heap.size w w') := Go.Lib.hid fun w h => Check_any _ _ _ _ w h hto.2.2 hto.2.1
        clear hsu hno hto
        cases hm : okW t
        all_goals
          have HM := Go.Lib.hid hm
          rw [chk_of hm] at HC
          clear hm
          simp only [if_true, if_false, Bool.false_eq_true] at HC
          go_wp2_with fail
          refine (HC.out _ (tabs_on (tabs_on HT.out hbr) (by repeat (first | exact Below.refl _ _ | with_reducible refine Below.alloc ?_ (by first | (simp; done) | (simp; omega) | omega) _ | with_reducible refine Below.setCell ?_ (by first | (simp; done) | (simp; omega) | omega) _ | with_reducible refine Below.drew ?_ | with_reducible refine Below.trans ?_ (Below.mono (by assumption) (by first | (simp; done) | (simp; omega) | omega)))))).mono ?_
          rintro e w2 ⟨rfl, hb2⟩
          go_wp2
          first
            | (go_roundw
               case rel => exact ⟨k + 1, by omega, by go_num, Go.Lib.hid (by rw [HS.out, HP.out, HM.out]; rfl), (hbr.alloc hsr _).trans (hb2.mono (by simp; omega))⟩
               case measure => simp [intOf]; omega)
            | (go_ret
               refine ⟨ret_int ?_, (hbr.alloc hsr _).trans (hb2.mono (by simp; omega))⟩
               simp [chkL, hbig, HN.out HM.out])
      · have hlt' : ¬ ((k : Int) < (L.length : Int)) := by omega
        have hkl : k = L.length := by omega
        go_wp2
        go_ret
        refine ⟨ret_int ?_, hbr⟩
        have := HP.out
        rw [hkl, List.take_length] at this
        simp [chkL, hbig, this]

set_option maxHeartbeats 2000000 in
set_option maxRecDepth 1000000 in
theorem rchecks_any (B : Nat) (A : Option Addr) (c : Nat) (L : List Wr) (hok : ∀ t ∈ L, t.ok) (w : World) (hT : Tabs w) (hA : At B w A (wrs L)) (hB : B ≤ w.heap.size) (hl : L.length ≤ 9000000000000000000) :
    Calls Tryd.prog 10 #[.slice A L.length c] w fun e w' => e = .returned (.int .i64 (chkL L)) ∧ Below w.heap.size w w' := by
  have HT := Go.Lib.hid hT
  clear hT
  by_cases hbig : 16 < L.length
  · rw [show chkL L = 4 by simp [chkL, hbig]]
    have hb : (16 : Int) < (L.length : Int) := by omega
    go_enter Tryd.func10, Tryd.ntmps10
    go_wp2
    go_ret
    exact ⟨rfl, (by repeat (first | exact Below.refl _ _ | with_reducible refine Below.alloc ?_ (by first | (simp; done) | (simp; omega) | omega) _ | with_reducible refine Below.setCell ?_ (by first | (simp; done) | (simp; omega) | omega) _ | with_reducible refine Below.drew ?_ | with_reducible refine Below.trans ?_ (Below.mono (by assumption) (by first | (simp; done) | (simp; omega) | omega))))⟩
  · have hb : (L.length : Int) ≤ 16 := by omega
    have HO := Go.Lib.hid hok
    clear hok
    go_enter Tryd.func10, Tryd.ntmps10
    go_wp2
    go_loopw [3] (fun i wr => ∃ k : Nat, k ≤ L.length ∧ i = .int .i64 k ∧ Hid (allW (L.take k) = true) ∧ Below w.heap.size w wr) (fun i _ => L.length - (intOf i).toNat)
    case atStart => exact ⟨0, by omega, rfl, Go.Lib.hid rfl, Below.refl _ _⟩
    case round =>
      obtain ⟨k, hk, rfl, HP, hbr⟩ := hrel
      have hsr := hbr.size
      by_cases hlt : k < L.length
      · have hli : (k : Int) < (L.length : Int) := by omega
        obtain ⟨g, o, rfl, hg, c0, c1, c2, c3⟩ := (hA.below (hbr.mono hB)).wr hlt
        have hsu := allW_take L k hlt
        have hno := fun h => allW_no (L := L) hlt h
        have hto := HO.out _ (List.getElem_mem hlt)
        generalize L[k] = t at *
        have HS := Go.Lib.hid hsu
        have HN := Go.Lib.hid hno
        have HC : Hid (∀ w, Tabs w → Calls Tryd.prog 7 #[.agg #[.int .u8 t.k, .int .u16 t.m, .int .i64 t.n, .string t.s]] w fun e w' => e = .returned (.int .i64 (chkW t.k t.m t.n t.s)) ∧ Below w.heap.size w w') := Go.Lib.hid fun w h => rCheck_any _ _ _ _ w h hto.2.2 hto.2.1
        clear hsu hno hto
        cases hm : okW t
        all_goals
          have HM := Go.Lib.hid hm
          rw [chk_of hm] at HC
          clear hm
          simp only [if_true, if_false, Bool.false_eq_true] at HC
          go_wp2_with fail
          refine (HC.out _ (tabs_on (tabs_on HT.out hbr) (by repeat (first | exact Below.refl _ _ | with_reducible refine Below.alloc ?_ (by first | (simp; done) | (simp; omega) | omega) _ | with_reducible refine Below.setCell ?_ (by first | (simp; done) | (simp; omega) | omega) _ | with_reducible refine Below.drew ?_ | with_reducible refine Below.trans ?_ (Below.mono (by assumption) (by first | (simp; done) | (simp; omega) | omega)))))).mono ?_
          rintro e w2 ⟨rfl, hb2⟩
          go_wp2
          first
            | (go_roundw
               case rel => exact ⟨k + 1, by omega, by go_num, Go.Lib.hid (by rw [HS.out, HP.out, HM.out]; rfl), hbr.trans (hb2.mono hsr)⟩
               case measure => simp [intOf]; omega)
            | (go_ret
               refine ⟨ret_int ?_, hbr.trans (hb2.mono hsr)⟩
               simp [chkL, hbig, HN.out HM.out])
      · have hlt' : ¬ ((k : Int) < (L.length : Int)) := by omega
        have hkl : k = L.length := by omega
        go_wp2
        go_ret
        refine ⟨ret_int ?_, hbr⟩
        have := HP.out
        rw [hkl, List.take_length] at this
        simp [chkL, hbig, this]

end Go.Proofs.YtfieldhlgipimaaDoor
