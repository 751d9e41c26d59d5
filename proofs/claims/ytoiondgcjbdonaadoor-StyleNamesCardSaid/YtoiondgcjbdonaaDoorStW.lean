/- Layer 5: colours of the law, and the answers that the document fixes. (Printed by gen_w.py.) -/
import Derived.Test.YtoiondgcjbdonaaDoorStV
namespace Go.Proofs.YtoiondgcjbdonaaDoor
set_option linter.unusedVariables false
set_option linter.unusedSimpArgs false
set_option maxRecDepth 100000
open Go.RowKit Go.Shelf Go.Lib Go.Sort

theorem red_any (w : World) : Calls Tryd.prog 30 #[] w fun e w' => e = .returned (.agg #[.int .u8 255, .int .u8 0, .int .u8 0, .int .u8 255]) ∧ Below w.heap.size w w' := by
  go_enter Tryd.func30, Tryd.ntmps30
  go_wp2
  exact bodyPost_ret (v := .agg #[.int .u8 255, .int .u8 0, .int .u8 0, .int .u8 255]) (by simp [results, Tryd.results30, go_sem]) rfl ⟨rfl, (by repeat (first | exact Below.refl _ _ | with_reducible refine Below.alloc ?_ (by first | (simp; done) | (simp; omega) | omega) _ | with_reducible refine Below.setCell ?_ (by first | (simp; done) | (simp; omega) | omega) _ | with_reducible refine Below.drew ?_ | with_reducible refine Below.trans ?_ (Below.mono (by assumption) (by first | (simp; done) | (simp; omega) | omega))))⟩
theorem green_any (w : World) : Calls Tryd.prog 31 #[] w fun e w' => e = .returned (.agg #[.int .u8 0, .int .u8 255, .int .u8 0, .int .u8 255]) ∧ Below w.heap.size w w' := by
  go_enter Tryd.func31, Tryd.ntmps31
  go_wp2
  exact bodyPost_ret (v := .agg #[.int .u8 0, .int .u8 255, .int .u8 0, .int .u8 255]) (by simp [results, Tryd.results31, go_sem]) rfl ⟨rfl, (by repeat (first | exact Below.refl _ _ | with_reducible refine Below.alloc ?_ (by first | (simp; done) | (simp; omega) | omega) _ | with_reducible refine Below.setCell ?_ (by first | (simp; done) | (simp; omega) | omega) _ | with_reducible refine Below.drew ?_ | with_reducible refine Below.trans ?_ (Below.mono (by assumption) (by first | (simp; done) | (simp; omega) | omega))))⟩
theorem blue_any (w : World) : Calls Tryd.prog 32 #[] w fun e w' => e = .returned (.agg #[.int .u8 0, .int .u8 0, .int .u8 255, .int .u8 255]) ∧ Below w.heap.size w w' := by
  go_enter Tryd.func32, Tryd.ntmps32
  go_wp2
  exact bodyPost_ret (v := .agg #[.int .u8 0, .int .u8 0, .int .u8 255, .int .u8 255]) (by simp [results, Tryd.results32, go_sem]) rfl ⟨rfl, (by repeat (first | exact Below.refl _ _ | with_reducible refine Below.alloc ?_ (by first | (simp; done) | (simp; omega) | omega) _ | with_reducible refine Below.setCell ?_ (by first | (simp; done) | (simp; omega) | omega) _ | with_reducible refine Below.drew ?_ | with_reducible refine Below.trans ?_ (Below.mono (by assumption) (by first | (simp; done) | (simp; omega) | omega))))⟩

def cR : Cl := ⟨255, 0, 0, 255⟩
def cG : Cl := ⟨0, 255, 0, 255⟩
def cB : Cl := ⟨0, 0, 255, 255⟩
def cW : Cl := ⟨255, 255, 255, 255⟩
def big : ByteArray := { data := #[98, 105, 103] }
/-- The document's five rules. -/
def RS : List Ru := [⟨0, { data := #[] }, 0, ⟨1, cR, Cl.zero, false, 0⟩⟩, ⟨2, { data := #[] }, 0, ⟨1, cG, Cl.zero, false, 0⟩⟩, ⟨0, big, 0, ⟨9, cB, Cl.zero, false, 2⟩⟩, ⟨0, { data := #[] }, 1, ⟨2, Cl.zero, cW, false, 0⟩⟩, ⟨2, { data := #[] }, 0, ⟨8, Cl.zero, Cl.zero, false, 1⟩⟩]
theorem RS_in : ∀ r ∈ RS, r.In := by
  intro r hr
  simp only [RS, List.mem_cons, List.mem_nil_iff, or_false] at hr
  rcases hr with rfl | rfl | rfl | rfl | rfl
  all_goals exact ⟨by decide, by decide, ⟨by decide, by unfold Cl.In; decide, by unfold Cl.In; decide⟩, by decide⟩
theorem RS_chk : chkE RS = 0 := by kernel_rfl
theorem ord_by_rank (L : List Ru) (l : List Nat) (hl : l.length = L.length) (h : ((List.range L.length).all fun i => l[(List.range L.length).countP (fun j => decide (Rk (keyAt L) j i))]? == some i) = true) : ordN L = l := by
  symm
  refine ordL_of_rank _ hl fun i hi => ?_
  have := List.all_eq_true.1 h i (List.mem_range.2 hi)
  exact beq_iff_eq.1 this
theorem RS_ord : ordN RS = [0, 1, 4, 2, 3] := ord_by_rank RS [0, 1, 4, 2, 3] rfl (by kernel_rfl)
theorem RS_look1 : foldO (fR RS) (hR RS 2 [] 0) (ordN RS) Lk.none = ⟨9, cG, Cl.zero, false, 1⟩ := by rw [RS_ord]; kernel_rfl
theorem RS_look2 : foldO (fR RS) (hR RS 2 [115, 109, 97, 108, 108, 32, 98, 105, 103] 1) (ordN RS) Lk.none = ⟨11, cB, cW, false, 2⟩ := by rw [RS_ord]; kernel_rfl
theorem RS_which : whichR RS 2 [98, 105, 103] 0 1 = 2 := by unfold whichR; rw [RS_ord]; kernel_rfl
def RW : List Ru := [⟨11, { data := #[] }, 0, Lk.none⟩]
theorem RW_in : ∀ r ∈ RW, r.In := by
  intro r hr
  simp only [RW, List.mem_cons, List.mem_nil_iff, or_false] at hr
  subst hr
  exact ⟨by decide, by decide, ⟨by decide, by unfold Cl.In; decide, by unfold Cl.In; decide⟩, by decide⟩
theorem RW_chk : chkE RW = 50 := by kernel_rfl
/-- Rules in a block of their own. -/
theorem At.rules {w : World} {b : Nat} {L : List Ru} {cs : Array Value} {t : TypeId} (h : w.heap[b]? = some (.cells cs t (0, 0))) (hcs : cs = (rus L).toArray) : At w.heap.size w (some ⟨b, 0, none⟩) (rus L) := by
  intro _
  refine ⟨b, 0, rfl, lt_of_block h, fun j v hj => ?_⟩
  rw [Nat.zero_add, blk_cell h, hcs]
  simpa using hj

theorem chkRW (w : World) (hT : Tabs w) : Calls Tryd.prog 20 #[.slice (some ⟨w.heap.size, 0, none⟩) 1 1] (w.alloc (.cells #[.int .u8 11, .string { data := #[] }, .int .u8 0, .int .u8 0, .int .u8 0, .int .u8 0, .int .u8 0, .int .u8 0, .int .u8 0, .int .u8 0, .int .u8 0, .int .u8 0, .bool false, .int .i64 0] 46)) fun e w' => e = .returned (.int .i64 50) ∧ Below (w.alloc (.cells #[.int .u8 11, .string { data := #[] }, .int .u8 0, .int .u8 0, .int .u8 0, .int .u8 0, .int .u8 0, .int .u8 0, .int .u8 0, .int .u8 0, .int .u8 0, .int .u8 0, .bool false, .int .i64 0] 46)).heap.size (w.alloc (.cells #[.int .u8 11, .string { data := #[] }, .int .u8 0, .int .u8 0, .int .u8 0, .int .u8 0, .int .u8 0, .int .u8 0, .int .u8 0, .int .u8 0, .int .u8 0, .int .u8 0, .bool false, .int .i64 0] 46)) w' := by
  have C := Check_any _ _ 1 RW RW_in _ (tabs_on hT ((Below.refl _ _).alloc (Nat.le_refl _) (.cells #[.int .u8 11, .string { data := #[] }, .int .u8 0, .int .u8 0, .int .u8 0, .int .u8 0, .int .u8 0, .int .u8 0, .int .u8 0, .int .u8 0, .int .u8 0, .int .u8 0, .bool false, .int .i64 0] 46))) (At.rules (heap_alloc_new w (.cells #[.int .u8 11, .string { data := #[] }, .int .u8 0, .int .u8 0, .int .u8 0, .int .u8 0, .int .u8 0, .int .u8 0, .int .u8 0, .int .u8 0, .int .u8 0, .int .u8 0, .bool false, .int .i64 0] 46)) rfl) (Nat.le_refl _) (by decide)
  rw [RW_chk] at C
  exact C

set_option maxHeartbeats 8000000 in
set_option maxRecDepth 100000 in
theorem alive_any (w : World) (hT : Tabs w) : Calls Tryd.prog 10 #[] w fun e w' => e = .returned (.bool true) ∧ Below w.heap.size w w' := by
  have HT := hid hT
  clear hT
  go_enter Tryd.func10, Tryd.ntmps10
  go_wp2
  refine region_ext_last 2 mixed (by kernel_rfl) ?_
  simp only [List.length_cons, List.length_nil, Nat.reduceAdd, Nat.reduceSub, List.take_succ_cons, List.take_zero, List.drop_succ_cons, List.drop_zero]
  repeat (go_big_quiet_step (first | (go_at_call 30; exact in_ext (red_any _)) | (go_at_call 31; exact in_ext (green_any _)) | (go_at_call 32; exact in_ext (blue_any _))))
  refine wpQuiet_nil ?_
  intro w1 hb1
  have hs1 := hb1.size
  (try simp at hs1)
  have hw0 := (bcell hb1).1
  have hwt : ∀ i : Nat, i < 4 → w1.cell? ⟨w.heap.size, i, none⟩ = some (.int .u8 255) := fun i hi => by
    rw [hw0 _ _ (by simp)]
    rw [blk_cell (heap_alloc_new _ _)]
    match i, hi with
    | 0, _ => rfl
    | 1, _ => rfl
    | 2, _ => rfl
    | 3, _ => rfl
    | i + 4, h => omega
  have hbw1 : Below w.heap.size w w1 := ((Below.refl _ _).alloc (Nat.le_refl _) _).trans (hb1.mono (by simp))
  have hA : At (w1.alloc (.cells #[.int .u8 0, .string { data := #[] }, .int .u8 0, .int .u8 1, .int .u8 255, .int .u8 0, .int .u8 0, .int .u8 255, .int .u8 0, .int .u8 0, .int .u8 0, .int .u8 0, .bool false, .int .i64 0, .int .u8 2, .string { data := #[] }, .int .u8 0, .int .u8 1, .int .u8 0, .int .u8 255, .int .u8 0, .int .u8 255, .int .u8 0, .int .u8 0, .int .u8 0, .int .u8 0, .bool false, .int .i64 0, .int .u8 0, .string { data := #[98, 105, 103] }, .int .u8 0, .int .u8 9, .int .u8 0, .int .u8 0, .int .u8 255, .int .u8 255, .int .u8 0, .int .u8 0, .int .u8 0, .int .u8 0, .bool false, .int .i64 2, .int .u8 0, .string { data := #[] }, .int .u8 1, .int .u8 2, .int .u8 0, .int .u8 0, .int .u8 0, .int .u8 0, .int .u8 255, .int .u8 255, .int .u8 255, .int .u8 255, .bool false, .int .i64 0, .int .u8 2, .string { data := #[] }, .int .u8 0, .int .u8 8, .int .u8 0, .int .u8 0, .int .u8 0, .int .u8 0, .int .u8 0, .int .u8 0, .int .u8 0, .int .u8 0, .bool false, .int .i64 1] 46)).heap.size (w1.alloc (.cells #[.int .u8 0, .string { data := #[] }, .int .u8 0, .int .u8 1, .int .u8 255, .int .u8 0, .int .u8 0, .int .u8 255, .int .u8 0, .int .u8 0, .int .u8 0, .int .u8 0, .bool false, .int .i64 0, .int .u8 2, .string { data := #[] }, .int .u8 0, .int .u8 1, .int .u8 0, .int .u8 255, .int .u8 0, .int .u8 255, .int .u8 0, .int .u8 0, .int .u8 0, .int .u8 0, .bool false, .int .i64 0, .int .u8 0, .string { data := #[98, 105, 103] }, .int .u8 0, .int .u8 9, .int .u8 0, .int .u8 0, .int .u8 255, .int .u8 255, .int .u8 0, .int .u8 0, .int .u8 0, .int .u8 0, .bool false, .int .i64 2, .int .u8 0, .string { data := #[] }, .int .u8 1, .int .u8 2, .int .u8 0, .int .u8 0, .int .u8 0, .int .u8 0, .int .u8 255, .int .u8 255, .int .u8 255, .int .u8 255, .bool false, .int .i64 0, .int .u8 2, .string { data := #[] }, .int .u8 0, .int .u8 8, .int .u8 0, .int .u8 0, .int .u8 0, .int .u8 0, .int .u8 0, .int .u8 0, .int .u8 0, .int .u8 0, .bool false, .int .i64 1] 46)) (some ⟨w1.heap.size, 0, none⟩) (rus RS) := At.rules (heap_alloc_new _ _) rfl
  have hV : Below w.heap.size w (w1.alloc (.cells #[.int .u8 0, .string { data := #[] }, .int .u8 0, .int .u8 1, .int .u8 255, .int .u8 0, .int .u8 0, .int .u8 255, .int .u8 0, .int .u8 0, .int .u8 0, .int .u8 0, .bool false, .int .i64 0, .int .u8 2, .string { data := #[] }, .int .u8 0, .int .u8 1, .int .u8 0, .int .u8 255, .int .u8 0, .int .u8 255, .int .u8 0, .int .u8 0, .int .u8 0, .int .u8 0, .bool false, .int .i64 0, .int .u8 0, .string { data := #[98, 105, 103] }, .int .u8 0, .int .u8 9, .int .u8 0, .int .u8 0, .int .u8 255, .int .u8 255, .int .u8 0, .int .u8 0, .int .u8 0, .int .u8 0, .bool false, .int .i64 2, .int .u8 0, .string { data := #[] }, .int .u8 1, .int .u8 2, .int .u8 0, .int .u8 0, .int .u8 0, .int .u8 0, .int .u8 255, .int .u8 255, .int .u8 255, .int .u8 255, .bool false, .int .i64 0, .int .u8 2, .string { data := #[] }, .int .u8 0, .int .u8 8, .int .u8 0, .int .u8 0, .int .u8 0, .int .u8 0, .int .u8 0, .int .u8 0, .int .u8 0, .int .u8 0, .bool false, .int .i64 1] 46)) := hbw1.alloc hbw1.size _
  have hVw : Below w1.heap.size w1 (w1.alloc (.cells #[.int .u8 0, .string { data := #[] }, .int .u8 0, .int .u8 1, .int .u8 255, .int .u8 0, .int .u8 0, .int .u8 255, .int .u8 0, .int .u8 0, .int .u8 0, .int .u8 0, .bool false, .int .i64 0, .int .u8 2, .string { data := #[] }, .int .u8 0, .int .u8 1, .int .u8 0, .int .u8 255, .int .u8 0, .int .u8 255, .int .u8 0, .int .u8 0, .int .u8 0, .int .u8 0, .bool false, .int .i64 0, .int .u8 0, .string { data := #[98, 105, 103] }, .int .u8 0, .int .u8 9, .int .u8 0, .int .u8 0, .int .u8 255, .int .u8 255, .int .u8 0, .int .u8 0, .int .u8 0, .int .u8 0, .bool false, .int .i64 2, .int .u8 0, .string { data := #[] }, .int .u8 1, .int .u8 2, .int .u8 0, .int .u8 0, .int .u8 0, .int .u8 0, .int .u8 255, .int .u8 255, .int .u8 255, .int .u8 255, .bool false, .int .i64 0, .int .u8 2, .string { data := #[] }, .int .u8 0, .int .u8 8, .int .u8 0, .int .u8 0, .int .u8 0, .int .u8 0, .int .u8 0, .int .u8 0, .int .u8 0, .int .u8 0, .bool false, .int .i64 1] 46)) := (Below.refl _ _).alloc (Nat.le_refl _) _
  have hwl : w.heap.size < w1.heap.size := by omega
  clear hb1 hw0 hbw1
  go_wp2_with fail
  generalize w1.alloc (.cells #[.int .u8 0, .string { data := #[] }, .int .u8 0, .int .u8 1, .int .u8 255, .int .u8 0, .int .u8 0, .int .u8 255, .int .u8 0, .int .u8 0, .int .u8 0, .int .u8 0, .bool false, .int .i64 0, .int .u8 2, .string { data := #[] }, .int .u8 0, .int .u8 1, .int .u8 0, .int .u8 255, .int .u8 0, .int .u8 255, .int .u8 0, .int .u8 0, .int .u8 0, .int .u8 0, .bool false, .int .i64 0, .int .u8 0, .string { data := #[98, 105, 103] }, .int .u8 0, .int .u8 9, .int .u8 0, .int .u8 0, .int .u8 255, .int .u8 255, .int .u8 0, .int .u8 0, .int .u8 0, .int .u8 0, .bool false, .int .i64 2, .int .u8 0, .string { data := #[] }, .int .u8 1, .int .u8 2, .int .u8 0, .int .u8 0, .int .u8 0, .int .u8 0, .int .u8 255, .int .u8 255, .int .u8 255, .int .u8 255, .bool false, .int .i64 0, .int .u8 2, .string { data := #[] }, .int .u8 0, .int .u8 8, .int .u8 0, .int .u8 0, .int .u8 0, .int .u8 0, .int .u8 0, .int .u8 0, .int .u8 0, .int .u8 0, .bool false, .int .i64 1] 46) = V at *
  have hTV : Tabs V := tabs_on HT.out hV
  have hvw := hVw.size
  have O : Hid (∀ x, Below V.heap.size V x → Calls Tryd.prog 12 #[.slice (some ⟨w1.heap.size, 0, none⟩) 5 5] x fun e w' => ∃ g, e = .returned (.tuple #[.slice (some ⟨g, 0, none⟩) 5 5, .int .i64 0]) ∧ w'.ownsRow x.heap.size 3 1 (.slice (some ⟨g, 0, none⟩) 5 5) 5 (ints (ordI RS)) ∧ Below x.heap.size x w') := hid fun x hb => Order_ok V.heap.size _ 5 RS RS_in x (tabs_on hTV hb) (hA.below hb) hb.size RS_chk
  have K1 : Hid (∀ x, Below V.heap.size V x → Calls Tryd.prog 13 #[.slice (some ⟨w1.heap.size, 0, none⟩) 5 5, .int .u8 2, .string { data := #[] }, .int .u8 0] x fun e w' => e = .returned (.tuple #[.agg #[.int .u8 9, .int .u8 0, .int .u8 255, .int .u8 0, .int .u8 255, .int .u8 0, .int .u8 0, .int .u8 0, .int .u8 0, .bool false, .int .i64 1], .int .i64 0]) ∧ Below x.heap.size x w') := hid fun x hb => by
    have q := Look_ok V.heap.size _ 5 RS RS_in x (tabs_on hTV hb) (hA.below hb) hb.size 2 0 (by omega) { data := #[] } (by decide) RS_chk
    rw [show ({ data := #[] } : ByteArray).data.toList = [] from rfl, RS_look1] at q
    exact q
  have K2 : Hid (∀ x, Below V.heap.size V x → Calls Tryd.prog 13 #[.slice (some ⟨w1.heap.size, 0, none⟩) 5 5, .int .u8 2, .string { data := #[115, 109, 97, 108, 108, 32, 98, 105, 103] }, .int .u8 1] x fun e w' => e = .returned (.tuple #[.agg #[.int .u8 11, .int .u8 0, .int .u8 0, .int .u8 255, .int .u8 255, .int .u8 255, .int .u8 255, .int .u8 255, .int .u8 255, .bool false, .int .i64 2], .int .i64 0]) ∧ Below x.heap.size x w') := hid fun x hb => by
    have q := Look_ok V.heap.size _ 5 RS RS_in x (tabs_on hTV hb) (hA.below hb) hb.size 2 1 (by omega) { data := #[115, 109, 97, 108, 108, 32, 98, 105, 103] } (by decide) RS_chk
    rw [show ({ data := #[115, 109, 97, 108, 108, 32, 98, 105, 103] } : ByteArray).data.toList = [115, 109, 97, 108, 108, 32, 98, 105, 103] from rfl, RS_look2] at q
    exact q
  have W1 : Hid (∀ x, Below V.heap.size V x → Calls Tryd.prog 14 #[.slice (some ⟨w1.heap.size, 0, none⟩) 5 5, .int .u8 2, .string { data := #[98, 105, 103] }, .int .u8 0, .int .u8 1] x fun e w' => e = .returned (.tuple #[.int .i64 2, .int .i64 0]) ∧ Below x.heap.size x w') := hid fun x hb => by
    have q := Which_ok V.heap.size _ 5 RS RS_in x (tabs_on hTV hb) (hA.below hb) hb.size 2 0 1 (by omega) { data := #[98, 105, 103] } (by decide) RS_chk (by unfold FieldOk; omega)
    rw [show ({ data := #[98, 105, 103] } : ByteArray).data.toList = [98, 105, 103] from rfl, RS_which] at q
    exact q
  have W2 : Hid (∀ x, Below V.heap.size V x → Calls Tryd.prog 14 #[.slice (some ⟨w1.heap.size, 0, none⟩) 5 5, .int .u8 1, .string { data := #[] }, .int .u8 0, .int .u8 3] x fun e w' => e = .returned (.tuple #[.int .i64 0, .int .i64 2]) ∧ Below x.heap.size x w') := hid fun x hb =>
    Which_arg V.heap.size _ 5 RS RS_in x (tabs_on hTV hb) (hA.below hb) hb.size 1 0 3 (by omega) (by omega) { data := #[] } (by decide) RS_chk (by unfold FieldOk; omega)
  clear hA hTV
  refine (O.out _ (Below.refl _ _)).mono ?_
  rintro e w2 ⟨g, rfl, hown, hb2⟩
  have own2 := ordI_at hown
  unfold ordI at *
  rw [RS_ord] at own2
  have hg := (hown.lt g rfl).2
  clear hown
  have n0 : ∀ j : Nat, (hj : j < 5) → w2.cell? ⟨g, j, none⟩ = some (.int .i64 ([0, 1, 4, 2, 3] : List Int)[j]) := fun j hj => by
    obtain ⟨g', o, hgo, _, hc⟩ := own2 (by simp [ints])
    cases hgo
    have h := hc j _ (ints_at _ j (by simpa using hj))
    rw [Nat.zero_add] at h
    rw [h]
    match j, hj with
    | 0, _ => rfl
    | 1, _ => rfl
    | 2, _ => rfl
    | 3, _ => rfl
    | 4, _ => rfl
    | j + 5, h => omega
  have N0 := hid n0
  clear n0 own2
  go_wp2_with fail
  refine (K1.out _ hb2).mono ?_
  rintro e w3 ⟨rfl, hb3⟩
  have hb23 := hb2.trans (hb3.mono hb2.size)
  have k3 := heap_alloc_new w3 (.cells #[.int .u8 9, .int .u8 0, .int .u8 255, .int .u8 0, .int .u8 255, .int .u8 0, .int .u8 0, .int .u8 0, .int .u8 0, .bool false, .int .i64 1] 32)
  go_wp2_with fail
  refine (K2.out _ (hb23.alloc hb23.size _)).mono ?_
  rintro e w4 ⟨rfl, hb4⟩
  have hb34 : Below w3.heap.size w3 w4 := ((Below.refl _ _).alloc (Nat.le_refl _) _).trans (hb4.mono (by simp))
  have hb24 := hb23.trans (hb34.mono hb23.size)
  have k4 := heap_alloc_new w4 (.cells #[.int .u8 11, .int .u8 0, .int .u8 0, .int .u8 255, .int .u8 255, .int .u8 255, .int .u8 255, .int .u8 255, .int .u8 255, .bool false, .int .i64 2] 32)
  go_wp2_with fail
  refine (W1.out _ (hb24.alloc hb24.size _)).mono ?_
  rintro e w5 ⟨rfl, hb5⟩
  have hb45 : Below w4.heap.size w4 w5 := ((Below.refl _ _).alloc (Nat.le_refl _) _).trans (hb5.mono (by simp))
  have hb25 := hb24.trans (hb45.mono hb24.size)
  go_wp2_with fail
  refine (W2.out _ hb25).mono ?_
  rintro e w6 ⟨rfl, hb6⟩
  have hb26 := hb25.trans (hb6.mono hb25.size)
  have s3 := hb3.size
  have s2 := hb2.size
  have s34 := hb34.size
  have s45 := hb45.size
  have s4 := hb4.size
  (try simp at s4)
  have s5 := hb5.size
  (try simp at s5)
  have s6 := hb6.size
  have m0 := (hb3.trans ((hb34.mono s3).trans ((hb45.mono (by omega)).trans (hb6.mono (by omega)))))
  have p0 : w6.cell? ⟨g, 0, none⟩ = some (.int .i64 0) := (m0.cell (p := ⟨g, 0, none⟩) hg).trans (N0.out 0 (by omega))
  have p1 : w6.cell? ⟨g, 1, none⟩ = some (.int .i64 1) := (m0.cell (p := ⟨g, 1, none⟩) hg).trans (N0.out 1 (by omega))
  have p2 : w6.cell? ⟨g, 2, none⟩ = some (.int .i64 4) := (m0.cell (p := ⟨g, 2, none⟩) hg).trans (N0.out 2 (by omega))
  have p3 : w6.cell? ⟨g, 3, none⟩ = some (.int .i64 2) := (m0.cell (p := ⟨g, 3, none⟩) hg).trans (N0.out 3 (by omega))
  have p4 : w6.cell? ⟨g, 4, none⟩ = some (.int .i64 3) := (m0.cell (p := ⟨g, 4, none⟩) hg).trans (N0.out 4 (by omega))
  have q3 : w6.heap[w3.heap.size]? = some (.cells #[.int .u8 9, .int .u8 0, .int .u8 255, .int .u8 0, .int .u8 255, .int .u8 0, .int .u8 0, .int .u8 0, .int .u8 0, .bool false, .int .i64 1] 32 (0, 0)) := by rw [hb6.block _ (by omega), hb45.block _ (by omega), hb4.block _ (by simp)]; exact k3
  have q4 : w6.heap[w4.heap.size]? = some (.cells #[.int .u8 11, .int .u8 0, .int .u8 0, .int .u8 255, .int .u8 255, .int .u8 255, .int .u8 255, .int .u8 255, .int .u8 255, .bool false, .int .i64 2] 32 (0, 0)) := by rw [hb6.block _ (by omega), hb5.block _ (by simp)]; exact k4
  have hwt6 : ∀ i : Nat, i < 4 → w6.cell? ⟨w.heap.size, i, none⟩ = some (.int .u8 255) := fun i hi => by
    rw [(hVw.trans (hb26.mono hvw)).cell (p := ⟨w.heap.size, i, none⟩) hwl]; exact hwt i hi
  have t0 := hwt6 0 (by omega)
  have t1 := hwt6 1 (by omega)
  have t2 := hwt6 2 (by omega)
  have t3 := hwt6 3 (by omega)
  have kb3 := blk_cell q3
  have kb4 := blk_cell q4
  have hw6 : Below w.heap.size w w6 := hV.trans (hb26.mono hV.size)
  have HW6 := hid hw6
  have y0 : g < w6.heap.size := by omega
  have y1 : w3.heap.size < w6.heap.size := by omega
  have y2 : w4.heap.size < w6.heap.size := by omega
  have y3 : w.heap.size < w6.heap.size := by omega
  clear hwt hwt6 hb2 hb3 hb4 hb5 hb6 hb23 hb24 hb25 hb26 hb34 hb45 m0 k3 k4 q3 q4 hVw hV hw6 s2 s3 s34 s45 s4 s5 s6 hvw hg hs1 hwl
  have E1 : lkEq 9 0 255 0 255 0 0 0 0 1 9 0 255 0 255 0 0 0 0 1 false false = true := by kernel_rfl
  have E2 : lkEq 11 0 0 255 255 255 255 255 255 2 11 0 0 255 255 255 255 255 255 2 false false = true := by kernel_rfl
  go_wp2
  refine region_ext mixed (by kernel_rfl) ?_
  repeat (go_big_quiet_step ((go_at_call 31; exact in_ext (green_any _))))
  refine wpQuiet_nil ?_
  intro w7 hb7
  obtain ⟨hc7, hf7⟩ := bcell hb7
  have HB7 := hid hb7
  have s7 := hb7.size
  clear hb7
  have u0 : w.heap.size < w7.heap.size := by omega
  have u4 : w4.heap.size < w7.heap.size := by omega
  go_wp2
  refine region_ext_last 5 mixed (by kernel_rfl) ?_
  simp only [List.length_cons, List.length_nil, Nat.reduceAdd, Nat.reduceSub, List.take_succ_cons, List.take_zero, List.drop_succ_cons, List.drop_zero]
  repeat (go_big_quiet_step ((go_at_call 32; exact in_ext (blue_any _))))
  refine wpQuiet_nil ?_
  intro w8 hb8
  go_wp2_with fail
  refine (chkRW w8 (tabs_on HT.out (HW6.out.trans ((HB7.out.mono HW6.out.size).trans (hb8.mono (Nat.le_trans HW6.out.size s7)))))).mono ?_
  rintro e w9 ⟨rfl, hb9⟩
  go_wp2
  go_ret
  have hx := HW6.out.trans ((HB7.out.mono HW6.out.size).trans (hb8.mono (Nat.le_trans HW6.out.size s7)))
  exact ⟨rfl, (hx.alloc hx.size _).trans (hb9.mono (by have := hx.size; simp; omega))⟩
end Go.Proofs.YtoiondgcjbdonaaDoor
