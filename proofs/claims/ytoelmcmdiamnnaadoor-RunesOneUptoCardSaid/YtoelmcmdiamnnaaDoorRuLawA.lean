/- Layer 3: the walks of RunesGo and RunesOne. (Printed by gen_law.py.) -/
import Derived.Test.YtoelmcmdiamnnaaDoorRuAw
namespace Go.Proofs.YtoelmcmdiamnnaaDoor
set_option linter.unusedVariables false
set_option linter.unusedSimpArgs false
set_option maxRecDepth 100000
open Go.RowKit Go.Lib
set_option maxRecDepth 100000
set_option maxHeartbeats 8000000
theorem walkRunesGo (w : World) (hT : TabsL w) (s : ByteArray) (hs : s.size ≤ 4000000) (a : Int) (h1 : -9223372036854775808 ≤ a) (h2 : a ≤ 9223372036854775807) :
    Calls Tryd.prog 5 #[.string s, .int .i64 a] w fun e w' => e = .returned (.bool true) ∧ Below w.heap.size w w' := by
  have C1 := fun w => small (Next_any s a w (by omega)) hs
  have C2 := fun w => rNext_any s a w hs
  have C3 := fun w => small (Back_any s a h1 h2 w (by omega)) hs
  have C4 := fun w => rBack_any s a w hs
  have C5 := fun w hT => Word_any s a w hT hs
  have C6 := fun w hT => rWord_any s a w hT hs
  generalize nextE (pcs s.data.toList) a = z1 at *
  generalize backE (pcs s.data.toList) a = z2 at *
  generalize wordE kd (pcs s.data.toList) a = z3 at *
  obtain ⟨x1, b1⟩ := z1
  obtain ⟨x2, b2⟩ := z2
  obtain ⟨x3, b3⟩ := z3
  simp only [ansV] at C1 C2 C3 C4 C5 C6
  go_enter Tryd.func5, Tryd.ntmps5
  go_wp2_with fail
  refine (awake_any w hT).mono ?_
  rintro e w1 ⟨rfl, hb1⟩
  have HB1 := hid hb1
  clear hb1
  go_wp2_with fail
  refine (C1 w1).mono ?_
  rintro e w2 ⟨rfl, hb2⟩
  have HB2 := hid (HB1.out.trans (hb2.mono HB1.out.size))
  clear hb2 HB1
  go_wp2_with fail
  refine (C2 w2).mono ?_
  rintro e w3 ⟨rfl, hb3⟩
  have HB3 := hid (HB2.out.trans (hb3.mono HB2.out.size))
  clear hb3 HB2
  go_wp2_with fail
  refine (C3 w3).mono ?_
  rintro e w4 ⟨rfl, hb4⟩
  have HB4 := hid (HB3.out.trans (hb4.mono HB3.out.size))
  clear hb4 HB3
  go_wp2_with fail
  refine (C4 w4).mono ?_
  rintro e w5 ⟨rfl, hb5⟩
  have HB5 := hid (HB4.out.trans (hb5.mono HB4.out.size))
  clear hb5 HB4
  have D6 := C5 w5 (tabsL_on hT HB5.out).1
  go_wp2_with fail
  refine (D6).mono ?_
  rintro e w6 ⟨rfl, hb6⟩
  have HB6 := hid (HB5.out.trans (hb6.mono HB5.out.size))
  clear hb6 HB5
  have D7 := C6 w6 (tabsL_on hT HB6.out).1
  go_wp2_with fail
  refine (D7).mono ?_
  rintro e w7 ⟨rfl, hb7⟩
  have HB7 := hid (HB6.out.trans (hb7.mono HB6.out.size))
  clear hb7 HB6
  clear C1 C2 C3 C4 C5 C6 D6 D7
  cases b1 <;> cases b2 <;> cases b3
  all_goals go_wp2
  all_goals go_ret
  all_goals exact ⟨rfl, HB7.out⟩
theorem walkRunesOne (w : World) (hT : TabsL w) (r : Int) (s : ByteArray) (hs : s.size ≤ 4000000) :
    Calls Tryd.prog 3 #[.int .i32 r, .string s] w fun e w' => e = .returned (.bool true) ∧ Below w.heap.size w w' := by
  have C1 := fun w => small (Cells_any s w (by omega)) hs
  have C2 := fun w => small (rCells_any s w (by omega)) hs
  have C3 := fun w => Width_any r w
  have C4 := fun w => rWidth_any r w
  have C5 := fun w hT => At_any s w hT hs
  have C6 := fun w => rAt_any s w hs
  have C7 := fun w => Clean_any s w hs
  have C8 := fun w => rClean_any s w hs
  generalize total (pcs s.data.toList) = z1 at *
  generalize (pcs s.data.toList).length = z2 at *
  generalize wid r = z3 at *
  generalize atE s.data.toList = z4 at *
  generalize cleanE s = z5 at *
  go_enter Tryd.func3, Tryd.ntmps3
  go_wp2_with fail
  refine (awake_any w hT).mono ?_
  rintro e w1 ⟨rfl, hb1⟩
  have HB1 := hid hb1
  clear hb1
  go_wp2_with fail
  refine (C1 w1).mono ?_
  rintro e w2 ⟨rfl, hb2⟩
  have HB2 := hid (HB1.out.trans (hb2.mono HB1.out.size))
  clear hb2 HB1
  go_wp2_with fail
  refine (C2 w2).mono ?_
  rintro e w3 ⟨rfl, hb3⟩
  have HB3 := hid (HB2.out.trans (hb3.mono HB2.out.size))
  clear hb3 HB2
  go_wp2_with fail
  refine (C3 w3).mono ?_
  rintro e w4 ⟨rfl, hb4⟩
  have HB4 := hid (HB3.out.trans (hb4.mono HB3.out.size))
  clear hb4 HB3
  go_wp2_with fail
  refine (C4 w4).mono ?_
  rintro e w5 ⟨rfl, hb5⟩
  have HB5 := hid (HB4.out.trans (hb5.mono HB4.out.size))
  clear hb5 HB4
  have D6 := C5 w5 (tabsL_on hT HB5.out).1
  go_wp2_with fail
  refine (D6).mono ?_
  rintro e w6 ⟨rfl, hb6⟩
  have HB6 := hid (HB5.out.trans (hb6.mono HB5.out.size))
  clear hb6 HB5
  go_wp2_with fail
  refine (C6 w6).mono ?_
  rintro e w7 ⟨rfl, hb7⟩
  have HB7 := hid (HB6.out.trans (hb7.mono HB6.out.size))
  clear hb7 HB6
  go_wp2_with fail
  refine (C7 w7).mono ?_
  rintro e w8 ⟨rfl, hb8⟩
  have HB8 := hid (HB7.out.trans (hb8.mono HB7.out.size))
  clear hb8 HB7
  go_wp2_with fail
  refine (C8 w8).mono ?_
  rintro e w9 ⟨rfl, hb9⟩
  have HB9 := hid (HB8.out.trans (hb9.mono HB8.out.size))
  clear hb9 HB8
  go_wp2
  go_ret
  exact ⟨rfl, HB9.out⟩
end Go.Proofs.YtoelmcmdiamnnaaDoor
