/- Layer 5: which rule tells a thing, both sides. (Printed by gen_t.py.) -/
import Derived.Test.YtoiondgcjbdonaaDoorStQ
import Derived.Test.YtoiondgcjbdonaaDoorStS
namespace Go.Proofs.YtoiondgcjbdonaaDoor
set_option linter.unusedVariables false
set_option linter.unusedSimpArgs false
set_option maxRecDepth 100000
open Go.RowKit Go.Shelf Go.Lib Go.Sort

/-- Does the rule of a number hold? What does it look like? -/
def hR (L : List Ru) (kind : Nat) (cls : List UInt8) (st : Nat) (i : Nat) : Bool := (L[i]?.map fun r => holdsL r kind cls st).getD false
def fR (L : List Ru) (i : Nat) : Lk := (L[i]?.map (·.look)).getD Lk.none
theorem hR_get {L : List Ru} {kind : Nat} {cls : List UInt8} {st i : Nat} (h : i < L.length) : hR L kind cls st i = holdsL L[i] kind cls st := by simp [hR, h]
theorem fR_get {L : List Ru} {i : Nat} (h : i < L.length) : fR L i = L[i].look := by simp [fR, h]
def toldR (L : List Ru) (kind : Nat) (cls : List UInt8) (st field : Nat) (i : Nat) : Bool := hR L kind cls st i && tl (fR L i).has (field : Int)
theorem whichL_take (P : Nat → Bool) (o : List Nat) (k : Nat) (hk : k < o.length) (a : Int) : whichL P (o.take (k + 1)) a = if P o[k] then (o[k] : Int) else whichL P (o.take k) a := by
  rw [List.take_succ_eq_append_getElem hk, whichL_snoc]
theorem whichL_bd {P : Nat → Bool} {o : List Nat} {n : Nat} (h : ∀ i ∈ o, i < n) : whichL P o (-1) < n := by
  by_cases e : whichL P o (-1) = -1
  · rw [e]; omega
  · obtain ⟨i, h1, _, h3⟩ := whichL_mem e
    rw [h3]
    have := h i h1
    omega

set_option maxHeartbeats 4000000 in
set_option maxRecDepth 100000 in
theorem rwhich_any (L : List Ru) (hin : ∀ r ∈ L, r.In) (o : List Nat) (ho : ∀ i ∈ o, i < L.length) (A Ao : Option Addr) (c co B : Nat) (kind st field : Nat) (hst : st < 256) (cls : ByteArray) (hs : cls.size ≤ 9000000000000000000) (h256 : L.length ≤ 256) (hol : o.length ≤ 256) (w : World)
    (hA : At B w A (rus L)) (hO : At B w Ao (ints (o.map Int.ofNat))) (hB : B ≤ w.heap.size) :
    Calls Tryd.prog 41 #[.slice A L.length c, .slice Ao o.length co, .int .u8 (kind : Int), .string cls, .int .u8 (st : Int), .int .u8 (field : Int)] w fun e w' => e = .returned (.int .i64 (whichL (toldR L kind cls.data.toList st field) o (-1))) ∧ Below w.heap.size w w' := by
  obtain ⟨P, hP⟩ : ∃ P, toldR L kind cls.data.toList st field = P := ⟨_, rfl⟩
  rw [hP]
  have HP := hid hP
  have HI := hid hin
  have HOB := hid ho
  have HA := hid hA
  have HO := hid hO
  clear hP hin ho hA hO
  go_enter Tryd.func41, Tryd.ntmps41
  go_wp2
  go_loopg [13, 14] o.length (fun gh v13 v14 wr => ∃ k : Nat, v14 = .int .i64 k ∧ v13 = .int .i64 (whichL P (o.take k) (-1)) ∧ k ≤ o.length ∧ o.length - k ≤ gh ∧ Hid (Below w.heap.size w wr))
  case atStart => exact ⟨0, rfl, rfl, by omega, by omega, hid (Below.refl _ _)⟩
  case round =>
    obtain ⟨k, rfl, rfl, hk, hgk, hbr⟩ := hrel
    by_cases hlt : k < o.length
    · have hli : (k : Int) < (o.length : Int) := by omega
      have hsz := hbr.out.size
      have hlo := HOB.out _ (List.getElem_mem hlt)
      obtain ⟨go, oo, rfl, hgo, n0⟩ := (HO.out.below (hbr.out.mono hB)).int (k := k) (by simpa using hlt)
      have hTk := whichL_take P o k hlt (-1)
      rw [List.getElem_map] at n0
      generalize o[k] = a at *
      have n0 : wr.cell? ⟨go, oo + k, none⟩ = some (.int .i64 (a : Int)) := n0
      obtain ⟨g, oR, rfl, hg, c0, c1, c2, c3, c4, c5, c6, c7, c8, c9, c10, c11, c12, c13⟩ := (HA.out.below (hbr.out.mono hB)).ru hlo
      have hin := HI.out _ (List.getElem_mem hlo)
      have hPa : P a = (holdsL L[a] kind cls.data.toList st && tl L[a].look.has (field : Int)) := by rw [← HP.out]; unfold toldR; rw [hR_get hlo, fR_get hlo]
      generalize L[a] = r at *
      have hai : (a : Int) < (L.length : Int) := by omega
      have gw : g < wr.heap.size := by omega
      have gow : go < wr.heap.size := by omega
      have HC : Hid (∀ w, Calls Tryd.prog 55 #[.agg #[.int .u8 (r.kind : Int), .string r.cls, .int .u8 (r.st : Int), .int .u8 (r.look.has : Int), .int .u8 (r.look.col.r : Int), .int .u8 (r.look.col.g : Int), .int .u8 (r.look.col.b : Int), .int .u8 (r.look.col.a : Int), .int .u8 (r.look.bak.r : Int), .int .u8 (r.look.bak.g : Int), .int .u8 (r.look.bak.b : Int), .int .u8 (r.look.bak.a : Int), .bool r.look.brd, .int .i64 r.look.pad], .int .u8 (kind : Int), .string cls, .int .u8 (st : Int)] w fun e w' => e = .returned (.bool (holdsL r kind cls.data.toList st)) ∧ Below w.heap.size w w') := hid fun w => rHolds_any r hin kind st hst cls w hs
      have HT := hid hTk
      have HPa := hid hPa
      clear hTk hPa hin
      have ht : (bits .and .u8 (r.look.has : Int) (field : Int) != 0) = tl r.look.has (field : Int) := rfl
      generalize holdsL r kind cls.data.toList st = H at *
      generalize tl r.look.has (field : Int) = T at *
      have HB2 : Hid (∀ w1, Below (wr.alloc (.cells #[.int .u8 (r.kind : Int), .string r.cls, .int .u8 (r.st : Int), .int .u8 (r.look.has : Int), .int .u8 (r.look.col.r : Int), .int .u8 (r.look.col.g : Int), .int .u8 (r.look.col.b : Int), .int .u8 (r.look.col.a : Int), .int .u8 (r.look.bak.r : Int), .int .u8 (r.look.bak.g : Int), .int .u8 (r.look.bak.b : Int), .int .u8 (r.look.bak.a : Int), .bool r.look.brd, .int .i64 r.look.pad] 46)).heap.size (wr.alloc (.cells #[.int .u8 (r.kind : Int), .string r.cls, .int .u8 (r.st : Int), .int .u8 (r.look.has : Int), .int .u8 (r.look.col.r : Int), .int .u8 (r.look.col.g : Int), .int .u8 (r.look.col.b : Int), .int .u8 (r.look.col.a : Int), .int .u8 (r.look.bak.r : Int), .int .u8 (r.look.bak.g : Int), .int .u8 (r.look.bak.b : Int), .int .u8 (r.look.bak.a : Int), .bool r.look.brd, .int .i64 r.look.pad] 46)) w1 → Below w.heap.size w w1) := hid fun w1 h => (hbr.out.alloc hsz _).trans (h.mono (by simp; omega))
      cases H <;> cases T
      all_goals
        go_wp2_with (go_at_call 55; refine (HC.out _).mono ?_; rintro e w1 ⟨rfl, hb1⟩; obtain ⟨hc1, hf1⟩ := bcell hb1; have hs1 := hb1.size; (try simp at hs1); have z1 : wr.heap.size < wr.heap.size + 1 := (by omega); have z2 : g < wr.heap.size + 1 := (by omega); have z3 : go < wr.heap.size + 1 := (by omega); have y1 : wr.heap.size < w1.heap.size := (by omega))
        go_roundg (o.length - (k + 1))
        case measure => omega
        case rel => exact ⟨k + 1, by go_num, by rw [HT.out, HPa.out]; rfl, by omega, by omega, hid (HB2.out _ hb1)⟩
    · have hli : ¬ ((k : Int) < (o.length : Int)) := by omega
      obtain rfl : k = o.length := by omega
      rw [List.take_length]
      go_wp2
      go_ret
      exact ⟨rfl, hbr.out⟩

/-! ### Which -/
theorem field_tab : ((List.range 256).all fun f => (decide (f = 1) || (decide (f = 2) || (decide (f = 4) || decide (f = 8)))) == ((f - (f &&& 15) == 0) && (Lib.onesCount f == 1))) = true := by kernel_rfl
def FieldOk (f : Nat) : Prop := f = 1 ∨ f = 2 ∨ f = 4 ∨ f = 8
theorem field_no {f : Nat} (hf : f < 256) (h : ¬ FieldOk f) : f - (f &&& 15) ≠ 0 ∨ Lib.onesCount f ≠ 1 := by
  have t := List.all_eq_true.1 field_tab f (List.mem_range.2 hf)
  have e : (decide (f = 1) || (decide (f = 2) || (decide (f = 4) || decide (f = 8)))) = false := by
    unfold FieldOk at h
    simp only [Bool.or_eq_false_iff, decide_eq_false_iff_not]
    omega
  rw [e, beq_iff_eq] at t
  have t := t.symm
  rw [Bool.and_eq_false_iff] at t
  rcases t with t | t
  · exact .inl (by simpa using t)
  · exact .inr (by simpa using t)
/-- What Which answers of rules that may be. -/
def whichR (L : List Ru) (kind : Nat) (cls : List UInt8) (st field : Nat) : Int := whichL (toldR L kind cls st field) (ordN L) (-1)
theorem ordN_mem {L : List Ru} : ∀ i ∈ ordN L, i < L.length := fun i h => (ordL_mem _ _ _).1 h
theorem ordI_at {w : World} {base g n c : Nat} {L : List Ru} (h : w.ownsRow base 3 1 (.slice (some ⟨g, 0, none⟩) n c) n (ints (ordI L))) : At w.heap.size w (some ⟨g, 0, none⟩) (ints ((ordN L).map Int.ofNat)) := At.of_own h

section
variable (B : Nat) (A : Option Addr) (c : Nat) (L : List Ru) (hin : ∀ r ∈ L, r.In) (w : World) (hT : Tabs w) (hA : At B w A (rus L)) (hB : B ≤ w.heap.size) (kind st field : Nat) (hst : st < 256) (hfd : field < 256) (cls : ByteArray) (hs : cls.size ≤ 5000)
set_option linter.unusedSectionVars false
include hin hT hA hB hst hfd hs
set_option maxHeartbeats 4000000
set_option maxRecDepth 100000
theorem rWhich_bad (hl : L.length ≤ 9000000000000000000) (hc : chkE L ≠ 0) :
    Calls Tryd.prog 17 #[.slice A L.length c, .int .u8 (kind : Int), .string cls, .int .u8 (st : Int), .int .u8 (field : Int)] w fun e w' => e = .returned (.tuple #[.int .i64 0, .int .i64 (chkE L)]) ∧ Below w.heap.size w w' := by
  have C := rOrder_bad B A c L hin w hT hA hB hl hc
  generalize chkE L = E at *
  have hz : (E != 0) = true := by simpa using hc
  clear hc hA hT
  go_enter Tryd.func17, Tryd.ntmps17
  go_wp2_with (go_at_call 15; refine C.mono ?_; rintro e w1 ⟨rfl, hb1⟩)
  go_ret2
  exact ⟨rfl, hb1⟩
theorem rWhich_arg (hc : chkE L = 0) (hf : ¬ FieldOk field) :
    Calls Tryd.prog 17 #[.slice A L.length c, .int .u8 (kind : Int), .string cls, .int .u8 (st : Int), .int .u8 (field : Int)] w fun e w' => e = .returned (.tuple #[.int .i64 0, .int .i64 2]) ∧ Below w.heap.size w w' := by
  have C := rOrder_ok B A c L hin w hT hA hB hc
  unfold FieldOk at hf
  have z1 : ((field : Int) != 1) = true := by simp; omega
  have z2 : ((field : Int) != 2) = true := by simp; omega
  have z4 : ((field : Int) != 4) = true := by simp; omega
  have z8 : ((field : Int) != 8) = true := by simp; omega
  clear hc hA hT hf
  go_enter Tryd.func17, Tryd.ntmps17
  go_wp2_with (go_at_call 15; refine C.mono ?_; rintro e w1 ⟨g, rfl, hown, hb1⟩)
  go_ret2
  exact ⟨rfl, hb1⟩
theorem rWhich_ok (hc : chkE L = 0) (hf : FieldOk field) :
    Calls Tryd.prog 17 #[.slice A L.length c, .int .u8 (kind : Int), .string cls, .int .u8 (st : Int), .int .u8 (field : Int)] w fun e w' => e = .returned (.tuple #[.int .i64 (whichR L kind cls.data.toList st field), .int .i64 0]) ∧ Below w.heap.size w w' := by
  have hl := chk_len hc
  have C := rOrder_ok B A c L hin w hT hA hB hc
  have HQ : Hid (∀ w1 g, Below w.heap.size w w1 → w1.ownsRow w.heap.size 3 1 (.slice (some ⟨g, 0, none⟩) L.length L.length) L.length (ints (ordI L)) →
      Calls Tryd.prog 41 #[.slice A L.length c, .slice (some ⟨g, 0, none⟩) L.length L.length, .int .u8 (kind : Int), .string cls, .int .u8 (st : Int), .int .u8 (field : Int)] w1 fun e w' => e = .returned (.int .i64 (whichR L kind cls.data.toList st field)) ∧ Below w1.heap.size w1 w') := hid fun w1 g hb ho => by
    have q := rwhich_any L hin (ordN L) ordN_mem A (some ⟨g, 0, none⟩) c L.length w1.heap.size kind st field hst cls (by omega) hl (by rw [ordN_len]; exact hl) w1 ((hA.below (hb.mono hB)).mono (Nat.le_trans hB hb.size)) (ordI_at ho) (Nat.le_refl _)
    rw [ordN_len] at q
    exact q
  generalize whichR L kind cls.data.toList st field = R at *
  clear hc hA hT
  rcases hf with rfl | rfl | rfl | rfl
  all_goals
    go_enter Tryd.func17, Tryd.ntmps17
    go_wp2_with (first | (go_at_call 15; refine C.mono ?_; rintro e w1 ⟨g, rfl, hown, hb1⟩; have HO := hid (And.intro hown hb1); clear hown hb1) | (go_at_call 41; refine (HQ.out _ _ HO.out.2 HO.out.1).mono ?_; rintro e w2 ⟨rfl, hb2⟩))
    go_ret2
    exact ⟨rfl, HO.out.2.trans (hb2.mono HO.out.2.size)⟩
theorem Which_bad (hl : L.length ≤ 9000000000000000000) (hc : chkE L ≠ 0) :
    Calls Tryd.prog 14 #[.slice A L.length c, .int .u8 (kind : Int), .string cls, .int .u8 (st : Int), .int .u8 (field : Int)] w fun e w' => e = .returned (.tuple #[.int .i64 0, .int .i64 (chkE L)]) ∧ Below w.heap.size w w' := by
  have C := Order_bad B A c L hin w hT hA hB hl hc
  generalize chkE L = E at *
  have hz : (E != 0) = true := by simpa using hc
  clear hc hA hT
  go_enter Tryd.func14, Tryd.ntmps14
  go_wp2_with (go_at_call 12; refine C.mono ?_; rintro e w1 ⟨rfl, hb1⟩)
  go_ret2
  exact ⟨rfl, hb1⟩
theorem Which_arg (hc : chkE L = 0) (hf : ¬ FieldOk field) :
    Calls Tryd.prog 14 #[.slice A L.length c, .int .u8 (kind : Int), .string cls, .int .u8 (st : Int), .int .u8 (field : Int)] w fun e w' => e = .returned (.tuple #[.int .i64 0, .int .i64 2]) ∧ Below w.heap.size w w' := by
  have C := Order_ok B A c L hin w hT hA hB hc
  have hn := andNot8 field 15 hfd (by omega)
  have hO := fun w => ones_any field w hfd
  have hno := field_no hfd hf
  generalize field - (field &&& 15) = d at *
  generalize Lib.onesCount field = S at *
  have hn : bits .andNot .u8 (field : Int) 15 = (d : Int) := hn
  clear hc hA hT hf
  by_cases hd : d = 0
  · subst hd
    have z1 : ((S : Int) != 1) = true := by simp; omega
    clear hno
    go_enter Tryd.func14, Tryd.ntmps14
    go_wp2_with (first | (go_at_call 12; refine C.mono ?_; rintro e w1 ⟨g, rfl, hown, hb1⟩) | (go_at_call 38; refine (hO _).mono ?_; rintro e w2 ⟨rfl, rfl⟩))
    go_ret2
    exact ⟨rfl, hb1⟩
  · have z1 : ((d : Int) != 0) = true := by simp; omega
    clear hno hO hd
    go_enter Tryd.func14, Tryd.ntmps14
    go_wp2_with (first | (go_at_call 12; refine C.mono ?_; rintro e w1 ⟨g, rfl, hown, hb1⟩))
    go_ret2
    exact ⟨rfl, hb1⟩
end

set_option maxHeartbeats 4000000 in
set_option maxRecDepth 100000 in
theorem Which_ok (B : Nat) (A : Option Addr) (c : Nat) (L : List Ru) (hin : ∀ r ∈ L, r.In) (w : World) (hT : Tabs w) (hA : At B w A (rus L)) (hB : B ≤ w.heap.size) (kind st field : Nat) (hst : st < 256) (cls : ByteArray) (hs : cls.size ≤ 5000) (hc : chkE L = 0) (hf : FieldOk field) :
    Calls Tryd.prog 14 #[.slice A L.length c, .int .u8 (kind : Int), .string cls, .int .u8 (st : Int), .int .u8 (field : Int)] w fun e w' => e = .returned (.tuple #[.int .i64 (whichR L kind cls.data.toList st field), .int .i64 0]) ∧ Below w.heap.size w w' := by
  have hl := chk_len hc
  have C := Order_ok B A c L hin w hT hA hB hc
  have hfd : field < 256 := by unfold FieldOk at hf; omega
  have hn : bits .andNot .u8 (field : Int) 15 = 0 := by rcases hf with rfl | rfl | rfl | rfl <;> kernel_rfl
  have hO : ∀ w, Calls Tryd.prog 38 #[.int .u8 (field : Int)] w fun e w' => e = .returned (.int .i64 1) ∧ w = w' := fun w => by
    have q := ones_any field w hfd
    rw [show Lib.onesCount field = 1 by rcases hf with rfl | rfl | rfl | rfl <;> rfl] at q
    exact q
  have hpl : (pcsB cls).length ≤ 5001 + 1 := by
    rw [pcsB_len]
    have := Lib.count_le cls.data.toList [32]
    have e : cls.data.toList.length = cls.size := by simp
    show Lib.countB cls _ + 1 ≤ _
    unfold Lib.countB
    show Lib.count cls.data.toList [32] + 1 ≤ _
    omega
  have HS : Hid (∀ w1, Below w.heap.size w w1 → Calls Tryd.prog 36 #[.string cls, .string { data := #[32] }] w1 fun e w' => e = .returned (.slice (some ⟨w1.heap.size, 0, none⟩) (pcsB cls).length (pcsB cls).length) ∧ w1.alloc (.cells (strs (pcsB cls)).toArray 9) = w') := hid fun w1 hb => split_any cls w1 (tabs_on hT hb) (by omega)
  have HA : Hid (∀ w1, Below w.heap.size w w1 → At w.heap.size w1 A (rus L)) := hid fun w1 hb => (hA.mono hB).below hb
  have HI := hid hin
  have hR : whichR L kind cls.data.toList st field = whichL (toldR L kind cls.data.toList st field) (ordN L) (-1) := rfl
  have hPd : ∀ i (h : i < L.length), toldR L kind cls.data.toList st field i = (holdsB L[i] kind (pcsB cls) st && tl L[i].look.has (field : Int)) := fun i h => by
    unfold toldR; rw [hR_get h, fR_get h, holdsB_pcs]
  generalize toldR L kind cls.data.toList st field = P at *
  generalize whichR L kind cls.data.toList st field = R at *
  generalize pcsB cls = PB at *
  have HR := hid hR
  have HP := hid hPd
  have hol := ordN_len L
  have HL := hid hol
  have HOB := hid (@ordN_mem L)
  clear hc hA hT hf hin hR hPd hol
  go_enter Tryd.func14, Tryd.ntmps14
  go_wp2_with (first | (go_at_call 12; refine C.mono ?_; rintro e w1 ⟨g, rfl, hown, hb1⟩; have HO := hid (And.intro hown hb1); clear hown hb1) | (go_at_call 38; refine (hO _).mono ?_; rintro e w2 ⟨rfl, rfl⟩) | (go_at_call 36; refine (HS.out _ HO.out.2).mono ?_; rintro e w3 ⟨rfl, rfl⟩))
  have hb3 : Below w.heap.size w (w1.alloc (.cells (strs PB).toArray 9)) := HO.out.2.alloc HO.out.2.size _
  have own3 := own_below' HO.out.1 ((Below.refl _ _).alloc (Nat.le_refl _) (.cells (strs PB).toArray 9))
  have hs3 : At (w1.heap.size + 1) (w1.alloc (.cells (strs PB).toArray 9)) (some ⟨w1.heap.size, 0, none⟩) (strs PB) := by
    intro _
    refine ⟨w1.heap.size, 0, rfl, by omega, fun j v hj => ?_⟩
    rw [Nat.zero_add, blk_cell (heap_alloc_new _ _)]
    simpa using hj
  have hw3 : w1.heap.size < (w1.alloc (.cells (strs PB).toArray 9)).heap.size := by simp
  have HX := hid (And.intro hb3 (And.intro own3 (And.intro hs3 hw3)))
  clear hb3 own3 hs3 hw3 C hO
  generalize w1.alloc (.cells (strs PB).toArray 9) = W at *
  generalize w1.heap.size = cb at *
  go_loopg [15] L.length (fun gh v15 wr => ∃ k : Nat, v15 = .int .i64 ((k : Int) - 1) ∧ k ≤ L.length ∧ k ≤ gh ∧ Hid (Below W.heap.size W wr) ∧ Hid (∀ i ∈ (ordN L).drop k, P i = false))
  case atStart => exact ⟨L.length, by go_num, by omega, by omega, hid (Below.refl _ _), hid (fun i hi => by rw [List.drop_of_length_le (by rw [HL.out]; omega)] at hi; cases hi)⟩
  case round =>
    obtain ⟨k, rfl, hk, hgk, hbr, HN⟩ := hrel
    by_cases h0 : 0 < k
    · obtain ⟨q, rfl⟩ : ∃ q, k = q + 1 := ⟨k - 1, by omega⟩
      have hz : (0 : Int) ≤ ((q + 1 : Nat) : Int) - 1 := by omega
      have hqe : ((q + 1 : Nat) : Int) - 1 = (q : Int) := by omega
      rw [hqe] at *
      have hlt : q < (ordN L).length := by rw [HL.out]; omega
      have hqz : (q : Int) < (L.length : Int) := by omega
      have hW := HX.out.1.trans (hbr.out.mono HX.out.1.size)
      have hlo := HOB.out _ (List.getElem_mem hlt)
      obtain ⟨go, oo, hgo', hgo, n0⟩ := ((ordI_at HX.out.2.1).ext hbr.out).int (k := q) (by simpa using hlt)
      cases hgo'
      rw [List.getElem_map, Nat.zero_add] at n0
      have hyes := fun (h : P (ordN L)[q] = true) => whichL_at hlt h HN.out
      have hno : P (ordN L)[q] = false → ∀ i ∈ (ordN L).drop q, P i = false := fun h i hi => by
        rw [List.drop_eq_getElem_cons hlt] at hi
        rcases List.mem_cons.1 hi with rfl | hi
        · exact h
        · exact HN.out i hi
      generalize (ordN L)[q] = a at *
      have n0 : wr.cell? ⟨g, q, none⟩ = some (.int .i64 (a : Int)) := n0
      obtain ⟨gr, oR, rfl, hg, c0, c1, c2, c3, c4, c5, c6, c7, c8, c9, c10, c11, c12, c13⟩ := (HA.out _ hW).ru hlo
      have hin := HI.out _ (List.getElem_mem hlo)
      have hPa := HP.out a hlo
      generalize L[a] = r at *
      have hai : (a : Int) < (L.length : Int) := by omega
      have hsz := hW.size
      have hsx := hbr.out.size
      have gw : gr < wr.heap.size := by omega
      have gow : g < wr.heap.size := by omega
      have HC : Hid (∀ w, Below wr.heap.size wr w → Calls Tryd.prog 37 #[.agg #[.int .u8 (r.kind : Int), .string r.cls, .int .u8 (r.st : Int), .int .u8 (r.look.has : Int), .int .u8 (r.look.col.r : Int), .int .u8 (r.look.col.g : Int), .int .u8 (r.look.col.b : Int), .int .u8 (r.look.col.a : Int), .int .u8 (r.look.bak.r : Int), .int .u8 (r.look.bak.g : Int), .int .u8 (r.look.bak.b : Int), .int .u8 (r.look.bak.a : Int), .bool r.look.brd, .int .i64 r.look.pad], .int .u8 (kind : Int), .slice (some ⟨cb, 0, none⟩) PB.length PB.length, .int .u8 (st : Int)] w fun e w' => e = .returned (.bool (holdsB r kind PB st)) ∧ Below w.heap.size w w') :=
        hid fun w hb => holds_any r hin kind st hst PB _ _ W.heap.size w ((HX.out.2.2.1.mono (by have := HX.out.2.2.2; omega)).below ((hbr.out).trans (hb.mono hsx))) (by have := hb.size; omega) (by omega)
      have HY := hid hyes
      have HNO := hid hno
      have HPa := hid hPa
      clear hyes hno hPa hin hqe HN
      have ht : (bits .and .u8 (r.look.has : Int) (field : Int) != 0) = tl r.look.has (field : Int) := rfl
      generalize holdsB r kind PB st = H at *
      generalize tl r.look.has (field : Int) = T at *
      have HB2 : Hid (∀ w1, Below (wr.alloc (.cells #[.int .u8 (r.kind : Int), .string r.cls, .int .u8 (r.st : Int), .int .u8 (r.look.has : Int), .int .u8 (r.look.col.r : Int), .int .u8 (r.look.col.g : Int), .int .u8 (r.look.col.b : Int), .int .u8 (r.look.col.a : Int), .int .u8 (r.look.bak.r : Int), .int .u8 (r.look.bak.g : Int), .int .u8 (r.look.bak.b : Int), .int .u8 (r.look.bak.a : Int), .bool r.look.brd, .int .i64 r.look.pad] 46)).heap.size (wr.alloc (.cells #[.int .u8 (r.kind : Int), .string r.cls, .int .u8 (r.st : Int), .int .u8 (r.look.has : Int), .int .u8 (r.look.col.r : Int), .int .u8 (r.look.col.g : Int), .int .u8 (r.look.col.b : Int), .int .u8 (r.look.col.a : Int), .int .u8 (r.look.bak.r : Int), .int .u8 (r.look.bak.g : Int), .int .u8 (r.look.bak.b : Int), .int .u8 (r.look.bak.a : Int), .bool r.look.brd, .int .i64 r.look.pad] 46)) w1 → Below W.heap.size W w1) := hid fun w1 h => (hbr.out.alloc hsx _).trans (h.mono (by simp; omega))
      have HB3 : Hid (∀ w1, Below W.heap.size W w1 → Below w.heap.size w w1) := hid fun w1 h => HX.out.1.trans (h.mono HX.out.1.size)
      cases T with
      | false =>
        go_wp2
        go_roundg q
        case measure => omega
        case rel => exact ⟨q, by go_num, by omega, by omega, hid (HB2.out _ (Below.refl _ _)), hid (HNO.out (by rw [HPa.out, Bool.and_false]))⟩
      | true =>
        cases H
        all_goals
          go_wp2_with (go_at_call 37; refine (HC.out _ ((Below.refl _ _).alloc (Nat.le_refl _) _)).mono ?_; rintro e w5 ⟨rfl, hb5⟩; obtain ⟨hc5, hf5⟩ := bcell hb5; have z3 : g < (wr.alloc (.cells #[.int .u8 (r.kind : Int), .string r.cls, .int .u8 (r.st : Int), .int .u8 (r.look.has : Int), .int .u8 (r.look.col.r : Int), .int .u8 (r.look.col.g : Int), .int .u8 (r.look.col.b : Int), .int .u8 (r.look.col.a : Int), .int .u8 (r.look.bak.r : Int), .int .u8 (r.look.bak.g : Int), .int .u8 (r.look.bak.b : Int), .int .u8 (r.look.bak.a : Int), .bool r.look.brd, .int .i64 r.look.pad] 46)).heap.size := (by simp; omega); have n5 := (hc5 g q z3); have z4 : g < wr.heap.size + 1 := (by omega))
        · go_roundg q
          case measure => omega
          case rel => exact ⟨q, by go_num, by omega, by omega, hid (HB2.out _ hb5), hid (HNO.out (by rw [HPa.out]; rfl))⟩
        · go_ret2
          have e := HY.out (by rw [HPa.out]; rfl)
          exact ⟨by rw [HR.out, e]; rfl, HB3.out _ (HB2.out _ hb5)⟩
    · obtain rfl : k = 0 := by omega
      have hz : ¬ ((0 : Int) ≤ ((0 : Nat) : Int) - 1) := by omega
      go_wp2
      go_ret2
      have e : whichL P (ordN L) (-1) = -1 := whichL_none (fun i hi => HN.out i (by simpa using hi)) (-1)
      exact ⟨by rw [HR.out, e]; rfl, HX.out.1.trans (hbr.out.mono HX.out.1.size)⟩
end Go.Proofs.YtoiondgcjbdonaaDoor
