/- Layer 3: the walk of RunesCut. -/
import Derived.Test.YtoelmcmdiamnnaaDoorRuAw
namespace Go.Proofs.YtoelmcmdiamnnaaDoor
set_option linter.unusedVariables false
set_option linter.unusedSimpArgs false
set_option maxRecDepth 100000
open Go.RowKit Go.Lib
set_option maxRecDepth 100000

/-- What stays while the lines are written over. -/
structure Spo (w0 : World) (B g n cc : Nat) (B2 : Nat) (v2 : Value) (R : List By) (wr : World) : Prop where
  below : Below B w0 wr
  row : ∃ xs : List Value, xs.length = n ∧ wr.ownsRow B 9 1 (.slice (some ⟨g, 0, none⟩) n cc) n xs
  rest : wr.ownsRow B2 9 1 v2 R.length (strs R)
theorem Spo.cells {w0 wr : World} {B g n cc B2 k : Nat} {v2 : Value} {R : List By} (h : Spo w0 B g n cc B2 v2 R wr) (hk : k < n) (hne : v2.ownBlock ≠ some g) (u : Value) : (∃ x, wr.cell? ⟨g, k, none⟩ = some x) ∧ wr.frozen? ⟨g, k, none⟩ = false ∧ g < wr.heap.size ∧ Spo w0 B g n cc B2 v2 R (wr.setCell ⟨g, k, none⟩ u) := by
  obtain ⟨xs, hx, hrow⟩ := h.row
  obtain ⟨g', e, hg, hg2⟩ := own_head hrow (by omega)
  cases e
  refine ⟨⟨xs[k]'(by omega), (hrow.cellAt k (by omega)).trans (List.getElem?_eq_getElem (by omega))⟩, hrow.frozenAt k, hg2, ⟨h.below.setCell (p := ⟨g, k, none⟩) hg _, ⟨xs.set k u, by simpa using hx, own_store hrow k u⟩, own_off h.rest hne⟩⟩
set_option maxHeartbeats 8000000
theorem walkRunesCut (w : World) (hT : TabsL w) (s mark : ByteArray) (hs : s.size ≤ 4000000) (hm : mark.size ≤ 4000000) (a : Int) (h2 : a ≤ 9223372036854775807) :
    Calls Tryd.prog 4 #[.string s, .int .i64 a, .string mark] w fun e w' => e = .returned (.bool true) ∧ Below w.heap.size w w' := by
  have C1 := fun w => small2 (Cut_any s mark a h2 w (by omega) (by omega)) hs hm
  have C2 := fun w => small2 (rCut_any s mark a h2 w (by omega) (by omega)) hs hm
  have C3 := fun w hT => Lines_any s a w hT hs
  have C4 := fun w => rLines_any s a w hs
  have hne : linesE a s.data.toList ≠ [] := by
    unfold linesE
    intro h
    have h2 := spl_ne s.data.toList
    cases hq : spl s.data.toList with
    | nil => exact h2 hq
    | cons p ps =>
      rw [hq, List.flatMap_cons] at h
      exact parE_ne a p (List.append_eq_nil_iff.1 h).1
  have hRn : (linesE a s.data.toList).length ≤ 4000001 := by
    have h1 := take_len a (spl s.data.toList) (spl s.data.toList).length
    have hl2 : s.data.toList.length = s.size := by simp
    rw [List.take_length, spl_sum, hl2] at h1
    exact Nat.le_trans h1 (by omega)
  generalize linesE a s.data.toList = R at *
  generalize (cutE s a mark).1 = z1 at *
  generalize (cutE s a mark).2 = z2 at *
  have hR0 : 0 < R.length := List.length_pos_iff.2 hne
  have C5 := fun (B : Nat) (A A2 : Option Addr) (c c2 : Nat) (w : World) hA hA2 hB => SameTexts_any B R R A A2 c c2 w hA hA2 hB (by omega) (by omega)
  simp only [decide_true] at C5
  unfold LinP at C3 C4
  generalize widest R = mw at *
  obtain ⟨n, hn⟩ : ∃ n, R.length = n := ⟨_, rfl⟩
  rw [hn] at C3 C4 C5 hR0 hRn
  have HN := hid hn
  clear hn hne
  go_enter Tryd.func4, Tryd.ntmps4
  go_wp2_with fail
  refine (awake_any w hT).mono ?_
  rintro e w1 ⟨rfl, hb1⟩
  have HB1 := hid hb1
  clear hb1
  go_wp2_with fail
  refine (C1 w1).mono ?_
  rintro e w2 ⟨rfl, hb2⟩
  have HB2 := hid (HB1.out.trans (hb2.mono HB1.out.size))
  clear hb2 HB1
  go_wp2_with fail
  refine (C2 w2).mono ?_
  rintro e w3 ⟨rfl, hb3⟩
  have HB3 := hid (HB2.out.trans (hb3.mono HB2.out.size))
  clear hb3 HB2
  have D4 := C3 w3 (tabsL_on hT HB3.out)
  go_wp2_with fail
  refine D4.mono ?_
  rintro e w4 ⟨A, cc, rfl, hown4, hb4⟩
  obtain ⟨g, rfl, hg3, hg4⟩ := own_head hown4 hR0
  have HO4 := hid (And.intro hb4 hown4)
  clear hb4 hown4 D4
  go_wp2_with fail
  refine (C4 w4).mono ?_
  rintro e w5 ⟨A2, cc2, rfl, hown5, hb5⟩
  have HO5 := hid (And.intro hb5 hown5)
  have hg5 : g < w5.heap.size := by have := hb5.size; omega
  have D6 := C5 w5.heap.size (some ⟨g, 0, none⟩) A2 cc cc2 w5 (At.of_own (own_below' HO4.out.2 hb5)) (At.of_own hown5) (Nat.le_refl _)
  clear hown5 hb5
  go_wp2_with fail
  refine D6.mono ?_
  rintro e w6 ⟨rfl, hb6⟩
  have hobn : (Value.slice A2 n cc2).ownBlock ≠ some g := fun e => by have := own_ge HO5.out.2 _ e; omega
  have hSP : Spo w6 w3.heap.size g n cc w4.heap.size (.slice A2 n cc2) R w6 := ⟨Below.refl _ _, ⟨strs R, by rw [strs_len, HN.out], own_below' (own_below' HO4.out.2 HO5.out.1) hb6⟩, by rw [HN.out]; exact own_below' HO5.out.2 hb6⟩
  have HSP := hid hSP
  have HB6 := hid ((HB3.out.trans (HO4.out.1.mono HB3.out.size)).trans ((HO5.out.1.trans (hb6.mono HO5.out.1.size)).mono (by have := HO4.out.1.size; have := HB3.out.size; omega)))
  have hs3 := HB3.out.size
  clear hSP hb6 HO4 HO5 D6
  go_wp2
  go_loopg [17] n (fun gh v17 wr => ∃ k : Nat, v17 = .int .i64 k ∧ k ≤ n ∧ n - k ≤ gh ∧ Hid (Spo w6 w3.heap.size g n cc w4.heap.size (.slice A2 n cc2) R wr))
  case atStart => exact ⟨0, rfl, by omega, by omega, HSP⟩
  case round =>
    obtain ⟨k, rfl, hk, hgh, HS⟩ := hrel
    by_cases hlt : k < n
    · have hli : (k : Int) < (n : Int) := by omega
      obtain ⟨⟨x, c0⟩, f0, hgw, hS2⟩ := HS.out.cells hlt hobn (.string { data := #[115, 112, 111, 105, 108, 116] })
      have HS2 := hid hS2
      clear hS2 HS HSP
      go_wp2
      go_roundg (n - (k + 1))
      case measure => omega
      case rel => exact ⟨k + 1, by go_num, by omega, by omega, HS2⟩
    · have hli : ¬ ((k : Int) < (n : Int)) := by omega
      have HB7 := hid (HB6.out.trans (HS.out.below.mono hs3))
      have D8 := C3 wr (tabsL_on hT HB7.out)
      go_wp2_with fail
      refine D8.mono ?_
      rintro e w8 ⟨A3, cc3, rfl, hown8, hb8⟩
      have D9 := C5 w8.heap.size A3 A2 cc3 cc2 w8 (At.of_own hown8) (At.of_own (own_below' (by have q := HS.out.rest; rw [HN.out] at q; exact q) hb8)) (Nat.le_refl _)
      have HB8 := hid (HB7.out.trans (hb8.mono HB7.out.size))
      clear hown8 hb8 D8
      go_wp2_with fail
      refine D9.mono ?_
      rintro e w9 ⟨rfl, hb9⟩
      go_wp2
      go_ret
      exact ⟨rfl, HB8.out.trans (hb9.mono HB8.out.size)⟩
end Go.Proofs.YtoelmcmdiamnnaaDoor
