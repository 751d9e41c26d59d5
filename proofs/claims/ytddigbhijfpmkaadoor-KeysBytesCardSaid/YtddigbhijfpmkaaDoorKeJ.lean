/- Layer 21: rows of keys compared. -/
import Derived.Test.YtddigbhijfpmkaaDoorKeI
namespace Go.Proofs.YtddigbhijfpmkaaDoor
set_option linter.unusedVariables false
set_option linter.unusedSimpArgs false
set_option maxRecDepth 100000
open Go.RowKit Go.Shelf Go.Lib
set_option maxRecDepth 100000
set_option maxHeartbeats 4000000

def keyEq (a b : ByteArray) (m k : Int) : Bool := decide (a = b) && decide (m = k)
theorem keyEq_iff (a b : Ky) : keyEq ⟨a.nm.toArray⟩ ⟨b.nm.toArray⟩ (a.md : Int) (b.md : Int) = decide (a = b) := by
  unfold keyEq
  rw [← Bool.decide_and, decide_eq_decide]
  constructor
  · rintro ⟨h1, h2⟩
    have h3 : a.nm = b.nm := by
      have := congrArg (fun x : ByteArray => x.data.toList) h1
      simpa using this
    have h4 : a.md = b.md := by omega
    cases a
    cases b
    simp only at h3 h4
    rw [h3, h4]
  · rintro rfl
    exact ⟨rfl, rfl⟩
section
variable (w : World) (a b : ByteArray) (m k : Int)
theorem run_eql_key : (binOp .eql 31 (.agg #[.string a, .int .u8 m]) (.agg #[.string b, .int .u8 k])).run Tryd.prog w = .ok (.bool (keyEq a b m k)) w := by
  unfold keyEq
  have hb : (a.toList == b.toList) = decide (a = b) := by rw [← beq_toListBytes, ba_beq]
  by_cases h1 : a = b <;> by_cases h2 : m = k <;> simp [go_sem, h1, h2, hb]
theorem run_neq_key : (binOp .neq 31 (.agg #[.string a, .int .u8 m]) (.agg #[.string b, .int .u8 k])).run Tryd.prog w = .ok (.bool (!keyEq a b m k)) w := by
  unfold keyEq
  have hb : (a.toList == b.toList) = decide (a = b) := by rw [← beq_toListBytes, ba_beq]
  by_cases h1 : a = b <;> by_cases h2 : m = k <;> simp [go_sem, h1, h2, hb]
end
attribute [go_sem 2000] run_eql_key run_neq_key
theorem comL_drop {a b : List Ky} {k : Nat} (ha : k < a.length) (hb : k < b.length) : comL (a.drop k) (b.drop k) = if a[k] = b[k] then comL (a.drop (k + 1)) (b.drop (k + 1)) + 1 else 0 := by
  rw [List.drop_eq_getElem_cons ha, List.drop_eq_getElem_cons hb]
  rfl
theorem comL_end {a b : List Ky} {k : Nat} (h : a.length ≤ k ∨ b.length ≤ k) : comL (a.drop k) (b.drop k) = 0 := by
  rcases h with h | h
  · rw [List.drop_of_length_le h]
    cases b.drop k <;> rfl
  · rw [List.drop_of_length_le h]
    cases a.drop k <;> rfl
theorem common_any (B : Nat) (A1 A2 : Option Addr) (c1 c2 : Nat) (a b : List Ky) (w : World) (h1 : At B w A1 (kys a)) (h2 : At B w A2 (kys b)) (hB : B ≤ w.heap.size) (l1 : a.length ≤ 4611686018427387904) (l2 : b.length ≤ 4611686018427387904) :
    Calls Tryd.prog 30 #[.slice A1 a.length c1, .slice A2 b.length c2] w fun e w' => e = .returned (.int .i64 (comL a b : Int)) ∧ Below w.heap.size w w' := by
  obtain ⟨Z, hZ⟩ : ∃ Z, comL a b = Z := ⟨_, rfl⟩
  rw [hZ]
  have HZ0 := hid (show 0 + comL (a.drop 0) (b.drop 0) = Z by rw [List.drop_zero, List.drop_zero, Nat.zero_add]; exact hZ)
  have H1 := hid h1
  have H2 := hid h2
  clear hZ h1 h2
  go_enter Tryd.func30, Tryd.ntmps30
  go_wp2
  go_loopw [5] (fun i wr => ∃ k : Nat, i = .int .i64 k ∧ k ≤ a.length ∧ Hid (k + comL (a.drop k) (b.drop k) = Z) ∧ Below w.heap.size w wr) (fun i _ => a.length - (RowKit.intOf i).toNat)
  case atStart => exact ⟨0, rfl, by omega, HZ0, Below.refl _ _⟩
  case round =>
    obtain ⟨k, rfl, hk, HZ, hbr⟩ := hrel
    by_cases ha : k < a.length
    · by_cases hb : k < b.length
      · have i1 : (k : Int) < (a.length : Int) := by omega
        have i2 : (k : Int) < (b.length : Int) := by omega
        obtain ⟨g1, o1, rfl, hg1, x0, x1⟩ := (H1.out.below (hbr.mono hB)).ky ha
        obtain ⟨g2, o2, rfl, hg2, y0, y1⟩ := (H2.out.below (hbr.mono hB)).ky hb
        have hz := HZ.out
        rw [comL_drop ha hb] at hz
        have hq := keyEq_iff a[k] b[k]
        obtain ⟨q, hqq⟩ : ∃ q, keyEq ⟨a[k].nm.toArray⟩ ⟨b[k].nm.toArray⟩ (a[k].md : Int) (b[k].md : Int) = q := ⟨_, rfl⟩
        rw [hqq] at hq
        generalize a[k].nm = n1 at *
        generalize b[k].nm = n2 at *
        generalize a[k].md = m1 at *
        generalize b[k].md = m2 at *
        have hsr := hbr.size
        have lg1 : g1 < wr.heap.size := by omega
        have lg2 : g2 < wr.heap.size := by omega
        cases q with
        | true =>
          rw [if_pos (of_decide_eq_true hq.symm)] at hz
          have HQ := hid hq
          have HZ2 := hid hz
          clear hq hz
          go_wp2
          refine region_ext mixed (by kernel_rfl) ?_
          (repeat (go_big_quiet_step (fail)))
          refine wpQuiet_nil ?_
          intro w4 hb4
          go_wp2
          go_roundw
          case rel => exact ⟨k + 1, by go_num, by omega, hid (by have := HZ2.out; omega), hbr.trans (hb4.mono hsr)⟩
          case measure => simp [RowKit.intOf]; omega
        | false =>
          rw [if_neg (of_decide_eq_false hq.symm)] at hz
          have HQ := hid hq
          have HZ2 := hid hz
          clear hq hz
          go_wp2
          refine region_ext mixed (by kernel_rfl) ?_
          (repeat (go_big_quiet_step (fail)))
          refine wpQuiet_nil ?_
          intro w4 hb4
          go_wp2
          go_ret
          exact ⟨ret_int (by have := HZ2.out; omega), hbr.trans (hb4.mono hsr)⟩
      · have i1 : (k : Int) < (a.length : Int) := by omega
        have i2 : decide ((k : Int) < (b.length : Int)) = false := decide_eq_false (by omega)
        have i3 : decide (k < b.length) = false := decide_eq_false hb
        have hz := HZ.out
        rw [comL_end (.inr (by omega))] at hz
        have HZ2 := hid hz
        have hsr := hbr.size
        clear hz
        go_wp2
        refine region_ext mixed (by kernel_rfl) ?_
        (repeat (go_big_quiet_step (fail)))
        refine wpQuiet_nil ?_
        intro w4 hb4
        go_wp2
        go_ret
        exact ⟨ret_int (by have := HZ2.out; omega), hbr.trans (hb4.mono hsr)⟩
    · have i2 : decide ((k : Int) < (a.length : Int)) = false := decide_eq_false (by omega)
      have i3 : decide (k < a.length) = false := decide_eq_false ha
      have hz := HZ.out
      rw [comL_end (.inl (by omega))] at hz
      have HZ2 := hid hz
      have hsr := hbr.size
      clear hz
      go_wp2
      refine region_ext mixed (by kernel_rfl) ?_
      (repeat (go_big_quiet_step (fail)))
      refine wpQuiet_nil ?_
      intro w4 hb4
      go_wp2
      go_ret
      exact ⟨ret_int (by have := HZ2.out; omega), hbr.trans (hb4.mono hsr)⟩

/-! ### the reference's -/
def startsB (c k : List Ky) : Bool := decide (k.length ≤ c.length ∧ c.take k.length = k)
theorem starts_take {c k : List Ky} {i : Nat} (hc : i < c.length) (hk : i < k.length) (h : c.take i = k.take i) : c.take (i + 1) = k.take (i + 1) ↔ c[i] = k[i] := by
  rw [List.take_succ_eq_append_getElem hc, List.take_succ_eq_append_getElem hk, h]
  exact ⟨fun h => by simpa using List.append_cancel_left h, fun h => by rw [h]⟩
theorem starts_any (B : Nat) (A1 A2 : Option Addr) (c1 c2 : Nat) (a b : List Ky) (w : World) (h1 : At B w A1 (kys a)) (h2 : At B w A2 (kys b)) (hB : B ≤ w.heap.size) (l1 : a.length ≤ 4611686018427387904) (l2 : b.length ≤ 4611686018427387904) :
    Calls Tryd.prog 24 #[.slice A1 a.length c1, .slice A2 b.length c2] w fun e w' => e = .returned (.bool (startsB a b)) ∧ Below w.heap.size w w' := by
  obtain ⟨Z, hZ⟩ : ∃ Z, startsB a b = Z := ⟨_, rfl⟩
  rw [hZ]
  unfold startsB at hZ
  by_cases hl : a.length < b.length
  · have i1 : (a.length : Int) < (b.length : Int) := by omega
    rw [decide_eq_false (fun h => by omega)] at hZ
    subst hZ
    go_enter Tryd.func24, Tryd.ntmps24
    go_wp2
    go_ret
    exact ⟨rfl, Below.refl _ _⟩
  · have i1 : ¬ ((a.length : Int) < (b.length : Int)) := by omega
    have H1 := hid h1
    have H2 := hid h2
    have HZ := hid hZ
    clear h1 h2 hZ
    go_enter Tryd.func24, Tryd.ntmps24
    go_wp2
    go_loopw [5] (fun i wr => ∃ k : Nat, i = .int .i64 k ∧ k ≤ b.length ∧ Hid (a.take k = b.take k) ∧ Below w.heap.size w wr) (fun i _ => b.length - (RowKit.intOf i).toNat)
    case atStart => exact ⟨0, rfl, by omega, hid rfl, Below.refl _ _⟩
    case round =>
      obtain ⟨k, rfl, hk, HE, hbr⟩ := hrel
      have hsr := hbr.size
      by_cases hb : k < b.length
      · have ha : k < a.length := by omega
        have i2 : (k : Int) < (b.length : Int) := by omega
        have i3 : (k : Int) < (a.length : Int) := by omega
        obtain ⟨g1, o1, rfl, hg1, x0, x1⟩ := (H1.out.below (hbr.mono hB)).ky ha
        obtain ⟨g2, o2, rfl, hg2, y0, y1⟩ := (H2.out.below (hbr.mono hB)).ky hb
        have hst := starts_take ha hb HE.out
        have hq := keyEq_iff a[k] b[k]
        obtain ⟨q, hqq⟩ : ∃ q, keyEq ⟨a[k].nm.toArray⟩ ⟨b[k].nm.toArray⟩ (a[k].md : Int) (b[k].md : Int) = q := ⟨_, rfl⟩
        rw [hqq] at hq
        have lg1 : g1 < wr.heap.size := by omega
        have lg2 : g2 < wr.heap.size := by omega
        generalize a[k].nm = n1 at *
        generalize b[k].nm = n2 at *
        generalize a[k].md = m1 at *
        generalize b[k].md = m2 at *
        cases q with
        | true =>
          have HS := hid (hst.2 (of_decide_eq_true hq.symm))
          have HQ := hid hq
          clear hq hst
          go_wp2
          refine region_ext mixed (by kernel_rfl) ?_
          (repeat (go_big_quiet_step (fail)))
          refine wpQuiet_nil ?_
          intro w4 hb4
          go_wp2
          go_roundw
          case rel => exact ⟨k + 1, by go_num, by omega, HS, hbr.trans (hb4.mono hsr)⟩
          case measure => simp [RowKit.intOf]; omega
        | false =>
          have hne : ¬ a[k] = b[k] := of_decide_eq_false hq.symm
          have hzf : Z = false := by
            rw [← HZ.out]
            refine decide_eq_false (fun h => hne (hst.1 ?_))
            have := congrArg (List.take (k + 1)) h.2
            rwa [List.take_take, Nat.min_eq_left (by omega)] at this
          have HQ := hid hq
          have HNE := hid hne
          clear hq hst hne
          subst hzf
          go_wp2
          refine region_ext mixed (by kernel_rfl) ?_
          (repeat (go_big_quiet_step (fail)))
          refine wpQuiet_nil ?_
          intro w4 hb4
          go_wp2
          go_ret
          exact ⟨rfl, hbr.trans (hb4.mono hsr)⟩
      · have i2 : ¬ ((k : Int) < (b.length : Int)) := by omega
        have hzt : Z = true := by
          rw [← HZ.out]
          have := HE.out
          rw [show k = b.length by omega, List.take_length] at this
          exact decide_eq_true ⟨by omega, this⟩
        subst hzt
        go_wp2
        go_ret
        exact ⟨rfl, hbr⟩
theorem startsB_eq {a b : List Ky} (h : a.length = b.length) : startsB a b = decide (a = b) := by
  unfold startsB
  rw [decide_eq_decide, ← h, List.take_length]
  exact ⟨fun x => x.2, fun x => ⟨Nat.le_refl _, x⟩⟩
theorem Same_any (B : Nat) (A1 A2 : Option Addr) (c1 c2 : Nat) (a b : List Ky) (w : World) (h1 : At B w A1 (kys a)) (h2 : At B w A2 (kys b)) (hB : B ≤ w.heap.size) (l1 : a.length ≤ 4611686018427387904) (l2 : b.length ≤ 4611686018427387904) :
    Calls Tryd.prog 12 #[.slice A1 a.length c1, .slice A2 b.length c2] w fun e w' => e = .returned (.bool (decide (a = b))) ∧ Below w.heap.size w w' := by
  by_cases h : a.length = b.length
  · have C := starts_any B A1 A2 c1 c2 a b w h1 h2 hB l1 l2
    rw [startsB_eq h] at C
    obtain ⟨N, hN⟩ : ∃ N, b.length = N := ⟨_, rfl⟩
    rw [h, hN] at C ⊢
    clear h hN h1 h2 l1 l2
    go_enter Tryd.func12, Tryd.ntmps12
    go_wp2_with fail
    refine C.mono ?_
    rintro e w1 ⟨rfl, hb⟩
    go_wp2
    go_ret
    exact ⟨rfl, hb⟩
  · have i1 : ((a.length : Int) == (b.length : Int)) = false := beq_eq_false_iff_ne.2 (by omega)
    have i2 : (a.length == b.length) = false := beq_eq_false_iff_ne.2 h
    rw [decide_eq_false (fun e => h (by rw [e]))]
    clear h
    go_enter Tryd.func12, Tryd.ntmps12
    go_wp2
    go_ret
    exact ⟨rfl, Below.refl _ _⟩
end Go.Proofs.YtddigbhijfpmkaaDoor
