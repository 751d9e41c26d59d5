/- Layer 5: the law's own helpers: lists of rules and of numbers that are the same; lent rules. (Printed by gen_z.py.) -/
import Derived.Test.YtoiondgcjbdonaaDoorStY
import Derived.Test.YtoiondgcjbdonaaDoorStLawA
namespace Go.Proofs.YtoiondgcjbdonaaDoor
set_option linter.unusedVariables false
set_option linter.unusedSimpArgs false
set_option maxRecDepth 100000
open Go.RowKit Go.Shelf Go.Lib Go.Sort

theorem clEq_self (x : Cl) : clEq x.r x.g x.b x.a x.r x.g x.b x.a = true := by rw [clEq_iff]; exact decide_eq_true rfl
set_option maxHeartbeats 2000000 in
set_option maxRecDepth 100000 in
theorem sameLook_any (a : Lk) (w : World) : Calls Tryd.prog 58 #[.agg #[.int .u8 (a.has : Int), .int .u8 (a.col.r : Int), .int .u8 (a.col.g : Int), .int .u8 (a.col.b : Int), .int .u8 (a.col.a : Int), .int .u8 (a.bak.r : Int), .int .u8 (a.bak.g : Int), .int .u8 (a.bak.b : Int), .int .u8 (a.bak.a : Int), .bool a.brd, .int .i64 a.pad], .agg #[.int .u8 (a.has : Int), .int .u8 (a.col.r : Int), .int .u8 (a.col.g : Int), .int .u8 (a.col.b : Int), .int .u8 (a.col.a : Int), .int .u8 (a.bak.r : Int), .int .u8 (a.bak.g : Int), .int .u8 (a.bak.b : Int), .int .u8 (a.bak.a : Int), .bool a.brd, .int .i64 a.pad]] w fun e w' => e = .returned (.bool true) ∧ Below w.heap.size w w' := by
  have e1 := clEq_self a.col
  have e2 := clEq_self a.bak
  go_enter Tryd.func58, Tryd.ntmps58
  go_wp2
  go_ret
  exact ⟨rfl, (by repeat (first | exact Below.refl _ _ | with_reducible refine Below.alloc ?_ (by first | (simp; done) | (simp; omega) | omega) _ | with_reducible refine Below.setCell ?_ (by first | (simp; done) | (simp; omega) | omega) _ | with_reducible refine Below.drew ?_ | with_reducible refine Below.trans ?_ (Below.mono (by assumption) (by first | (simp; done) | (simp; omega) | omega))))⟩
set_option maxHeartbeats 2000000 in
set_option maxRecDepth 100000 in
theorem sameRule_any (r : Ru) (w : World) : Calls Tryd.prog 48 #[.agg #[.int .u8 (r.kind : Int), .string r.cls, .int .u8 (r.st : Int), .int .u8 (r.look.has : Int), .int .u8 (r.look.col.r : Int), .int .u8 (r.look.col.g : Int), .int .u8 (r.look.col.b : Int), .int .u8 (r.look.col.a : Int), .int .u8 (r.look.bak.r : Int), .int .u8 (r.look.bak.g : Int), .int .u8 (r.look.bak.b : Int), .int .u8 (r.look.bak.a : Int), .bool r.look.brd, .int .i64 r.look.pad], .agg #[.int .u8 (r.kind : Int), .string r.cls, .int .u8 (r.st : Int), .int .u8 (r.look.has : Int), .int .u8 (r.look.col.r : Int), .int .u8 (r.look.col.g : Int), .int .u8 (r.look.col.b : Int), .int .u8 (r.look.col.a : Int), .int .u8 (r.look.bak.r : Int), .int .u8 (r.look.bak.g : Int), .int .u8 (r.look.bak.b : Int), .int .u8 (r.look.bak.a : Int), .bool r.look.brd, .int .i64 r.look.pad]] w fun e w' => e = .returned (.bool true) ∧ Below w.heap.size w w' := by
  have C := fun w => sameLook_any r.look w
  go_enter Tryd.func48, Tryd.ntmps48
  go_wp2_with (go_at_call 58; refine (C _).mono ?_; rintro e w1 ⟨rfl, hb1⟩)
  go_ret
  exact ⟨rfl, (by repeat (first | exact Below.refl _ _ | with_reducible refine Below.alloc ?_ (by first | (simp; done) | (simp; omega) | omega) _ | with_reducible refine Below.setCell ?_ (by first | (simp; done) | (simp; omega) | omega) _ | with_reducible refine Below.drew ?_ | with_reducible refine Below.trans ?_ (Below.mono (by assumption) (by first | (simp; done) | (simp; omega) | omega))))⟩
set_option maxHeartbeats 2000000 in
set_option maxRecDepth 100000 in
theorem same_any (L : List Ru) (A A' : Option Addr) (c c' : Nat) (w : World) (hA : At w.heap.size w A (rus L)) (hA' : At w.heap.size w A' (rus L)) (hl : L.length ≤ 1000000) :
    Calls Tryd.prog 28 #[.slice A L.length c, .slice A' L.length c'] w fun e w' => e = .returned (.bool true) ∧ Below w.heap.size w w' := by
  have H1 := hid hA
  have H2 := hid hA'
  clear hA hA'
  go_enter Tryd.func28, Tryd.ntmps28
  go_wp2
  go_loopg [5] L.length (fun gh v5 wr => ∃ k : Nat, v5 = .int .i64 k ∧ k ≤ L.length ∧ L.length - k ≤ gh ∧ Hid (Below w.heap.size w wr))
  case atStart => exact ⟨0, rfl, by omega, by omega, hid (Below.refl _ _)⟩
  case round =>
    obtain ⟨k, rfl, hk, hgk, HB⟩ := hrel
    by_cases hlt : k < L.length
    · have hli : (k : Int) < (L.length : Int) := by omega
      obtain ⟨g, o, rfl, hg, c0, c1, c2, c3, c4, c5, c6, c7, c8, c9, c10, c11, c12, c13⟩ := (H1.out.below HB.out).ru hlt
      obtain ⟨g', o', rfl, hg', d0, d1, d2, d3, d4, d5, d6, d7, d8, d9, d10, d11, d12, d13⟩ := (H2.out.below HB.out).ru hlt
      generalize L[k] = r at *
      have hs := HB.out.size
      have y1 : g < wr.heap.size := by omega
      have y2 : g' < wr.heap.size := by omega
      have C := fun w => sameRule_any r w
      go_wp2
      refine region_ext mixed (by kernel_rfl) ?_
      repeat (go_big_quiet_step ((go_at_call 48; exact in_ext (C _))))
      refine wpQuiet_nil ?_
      intro w5 hb5
      go_wp2
      go_roundg (L.length - (k + 1))
      case measure => omega
      case rel => exact ⟨k + 1, by go_num, by omega, by omega, hid (HB.out.trans (hb5.mono hs))⟩
    · have hli : ¬ ((k : Int) < (L.length : Int)) := by omega
      go_wp2
      go_ret
      exact ⟨rfl, HB.out⟩
set_option maxHeartbeats 2000000 in
set_option maxRecDepth 100000 in
theorem numbers_any (l : List Int) (A A' : Option Addr) (c c' : Nat) (w : World) (hA : At w.heap.size w A (ints l)) (hA' : At w.heap.size w A' (ints l)) (hl : l.length ≤ 1000000) :
    Calls Tryd.prog 18 #[.slice A l.length c, .slice A' l.length c'] w fun e w' => e = .returned (.bool true) ∧ Below w.heap.size w w' := by
  have H1 := hid hA
  have H2 := hid hA'
  clear hA hA'
  go_enter Tryd.func18, Tryd.ntmps18
  go_wp2
  go_loopg [5] l.length (fun gh v5 wr => ∃ k : Nat, v5 = .int .i64 k ∧ k ≤ l.length ∧ l.length - k ≤ gh ∧ Hid (Below w.heap.size w wr))
  case atStart => exact ⟨0, rfl, by omega, by omega, hid (Below.refl _ _)⟩
  case round =>
    obtain ⟨k, rfl, hk, hgk, HB⟩ := hrel
    by_cases hlt : k < l.length
    · have hli : (k : Int) < (l.length : Int) := by omega
      obtain ⟨g, o, rfl, hg, c0⟩ := (H1.out.below HB.out).int hlt
      obtain ⟨g', o', rfl, hg', d0⟩ := (H2.out.below HB.out).int hlt
      generalize l[k] = r at *
      have hs := HB.out.size
      have y1 : g < wr.heap.size := by omega
      have y2 : g' < wr.heap.size := by omega
      go_wp2
      refine region_ext mixed (by kernel_rfl) ?_
      repeat (go_big_quiet_step (fail))
      refine wpQuiet_nil ?_
      intro w5 hb5
      go_wp2
      go_roundg (l.length - (k + 1))
      case measure => omega
      case rel => exact ⟨k + 1, by go_num, by omega, by omega, hid (HB.out.trans (hb5.mono hs))⟩
    · have hli : ¬ ((k : Int) < (l.length : Int)) := by omega
      go_wp2
      go_ret
      exact ⟨rfl, HB.out⟩

/-! ### Rules lent, with a mark behind -/
def mark77 : Ru := ⟨77, { data := #[] }, 0, Lk.none⟩
/-- Lent rules: one's own, with a mark behind. -/
def LentPost (L : List Ru) (w : World) (e : Ending) (w' : World) : Prop := ∃ g c, e = .returned (.slice (some ⟨g, 0, none⟩) L.length c) ∧ L.length + 1 ≤ c ∧ c ≤ maxLen ∧
  w'.ownsRow w.heap.size 46 14 (.slice (some ⟨g, 0, none⟩) (L.length + 1) c) (L.length + 1) (rus (L ++ [mark77])) ∧ Below w.heap.size w w'
set_option maxHeartbeats 2000000 in
set_option maxRecDepth 100000 in
theorem lent_any (B : Nat) (A : Option Addr) (c : Nat) (L : List Ru) (w : World) (hA : At B w A (rus L)) (hB : B ≤ w.heap.size) (hnil : A = none → L.length = 0 ∧ c = 0) (hl : L.length ≤ 2000) :
    Calls Tryd.prog 11 #[.slice A L.length c] w (LentPost L w) := by
  have h0 : w.ownsRow w.heap.size 46 14 (.slice none 0 0) ([] : List Ru).length (rus []) := ⟨rfl, .inl ⟨rfl, rfl⟩⟩
  have T2 : ([] : List Ru).length + L.length ≤ 1000000 := by simp; omega
  have T2' := hid T2
  have HA := hid hA
  have HNil := hid hnil
  have T4 : L.length + 1 ≤ 1000000 := by omega
  have T4' := hid T4
  clear hA hnil T2 T4
  go_enter Tryd.func11, Tryd.ntmps11
  go_wp2_with (first | (at_builtin; refine append_rules rfl (.tmp 4) (.tmp 5) rfl w.heap.size (.slice none 0 0) [] A L.length c B L rfl rfl HNil.out h0 HA.out rfl T2'.out (Nat.le_refl _) ?_))
  intro v1 w1 hown1 hgr1
  have hown1 : w1.ownsRow w.heap.size 46 14 v1 L.length (rus L) := by simpa using hown1
  have hb1 : Below w.heap.size w w1 := (Below.refl _ _).grown hgr1 (Nat.le_refl _) (fun k hk => by cases hk)
  have hs1 := hb1.size
  have hx := (Below.refl w1.heap.size w1).alloc (Nat.le_refl _) (.cells #[.int .u8 77, .string { data := #[] }, .int .u8 0, .int .u8 0, .int .u8 0, .int .u8 0, .int .u8 0, .int .u8 0, .int .u8 0, .int .u8 0, .int .u8 0, .int .u8 0, .bool false, .int .i64 0] 46)
  have hAm : At (w1.alloc (.cells #[.int .u8 77, .string { data := #[] }, .int .u8 0, .int .u8 0, .int .u8 0, .int .u8 0, .int .u8 0, .int .u8 0, .int .u8 0, .int .u8 0, .int .u8 0, .int .u8 0, .bool false, .int .i64 0] 46)).heap.size (w1.alloc (.cells #[.int .u8 77, .string { data := #[] }, .int .u8 0, .int .u8 0, .int .u8 0, .int .u8 0, .int .u8 0, .int .u8 0, .int .u8 0, .int .u8 0, .int .u8 0, .int .u8 0, .bool false, .int .i64 0] 46)) (some ⟨w1.heap.size, 0, none⟩) (rus [mark77]) := At.rules (heap_alloc_new _ _) rfl
  have hown2 := own_below' hown1 hx
  have hb2 : Below w.heap.size w (w1.alloc (.cells #[.int .u8 77, .string { data := #[] }, .int .u8 0, .int .u8 0, .int .u8 0, .int .u8 0, .int .u8 0, .int .u8 0, .int .u8 0, .int .u8 0, .int .u8 0, .int .u8 0, .bool false, .int .i64 0] 46)) := hb1.alloc hs1 _
  have HH := hid (And.intro hown2 (And.intro hb2 hAm))
  clear hown1 hgr1 hb1 hx hAm hown2 hb2
  go_wp2_with (first | (at_builtin; refine append_rules rfl (.tmp 7) (.tmp 9) rfl w.heap.size v1 L (some ⟨w1.heap.size, 0, none⟩) 1 1 _ [mark77] rfl rfl (fun h => by cases h) HH.out.1 HH.out.2.2 rfl T4'.out HH.out.2.1.size ?_))
  intro v2 w2 hown3 hgr3
  have hown3 : w2.ownsRow w.heap.size 46 14 v2 (L.length + 1) (rus (L ++ [mark77])) := by simpa using hown3
  have hb3 : Below w.heap.size w w2 := HH.out.2.1.grown hgr3 HH.out.2.1.size (own_ge HH.out.1)
  obtain ⟨h14, h2⟩ := hown3
  rcases h2 with ⟨_, hz⟩ | ⟨g, cap, cur, rfl, hge, hh, hn, hcap, hcs, ht⟩
  · omega
  · have HO := hid (And.intro (show w2.ownsRow w.heap.size 46 14 (.slice (some ⟨g, 0, none⟩) (L.length + 1) cap) (L.length + 1) (rus (L ++ [mark77])) from ⟨h14, .inr ⟨g, cap, cur, rfl, hge, hh, hn, hcap, hcs, ht⟩⟩) hb3)
    have hcap' := hid hcap
    have hni : (L.length : Int) ≤ (cap : Int) := by omega
    unfold maxLen at hcap
    clear h14 hge hh hcs ht hb3 hgr3
    go_wp2
    go_ret
    exact ⟨g, cap, rfl, hn, hcap'.out, HO.out.1, HO.out.2⟩
end Go.Proofs.YtoiondgcjbdonaaDoor
