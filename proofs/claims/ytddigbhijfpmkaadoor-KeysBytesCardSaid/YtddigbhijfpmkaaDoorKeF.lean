/- Layer 21: a key's text, read, both sides. -/
import Derived.Test.YtddigbhijfpmkaaDoorKeE
namespace Go.Proofs.YtddigbhijfpmkaaDoor
set_option linter.unusedVariables false
set_option linter.unusedSimpArgs false
set_option maxRecDepth 100000
open Go.RowKit Go.Shelf Go.Lib
set_option maxRecDepth 100000
set_option maxHeartbeats 4000000

theorem modL_cases (l : By) : ((modL l).1 = 0 ∧ (modL l).2 = 0) ∨ (((modL l).1 = 1 ∨ (modL l).1 = 2 ∨ (modL l).1 = 4) ∧ 4 ≤ (modL l).2 ∧ (modL l).2 ≤ l.length) := by
  rw [modL_eq]
  split
  · next h => right; exact ⟨.inr (.inl rfl), by simp, (List.isPrefixOf_iff_prefix.1 h).length_le⟩
  · split
    · next h => right; exact ⟨.inr (.inr rfl), by simp, (List.isPrefixOf_iff_prefix.1 h).length_le⟩
    · split
      · next h => right; exact ⟨.inl rfl, by simp, (List.isPrefixOf_iff_prefix.1 h).length_le⟩
      · left; exact ⟨rfl, rfl⟩
theorem parseG_at (f md at_ : Nat) (l : By) : parseG (f + 1) md at_ l = if (modL l).1 = 0 then (if nmB l then (⟨l, md⟩, 0, 0) else (noKy, at_, 210)) else if md &&& (modL l).1 ≠ 0 then (noKy, at_, 210) else parseG f (md ||| (modL l).1) (at_ + (modL l).2) (l.drop (modL l).2) := rfl
def strLen : Value → Nat | .string r => r.size | _ => 0
/-- Two cells of a key's box. -/
structure Box2 (w : World) (b : Nat) (nm : ByteArray) (md : Nat) : Prop where
  c0 : w.cell? ⟨b, 0, none⟩ = some (.string nm)
  c1 : w.cell? ⟨b, 1, none⟩ = some (.int .u8 (md : Int))
  f0 : w.frozen? ⟨b, 0, none⟩ = false
  f1 : w.frozen? ⟨b, 1, none⟩ = false
theorem Box2.of_heap {w : World} {b : Nat} {nm : ByteArray} {md : Nat} {t : TypeId} (h : w.heap[b]? = some (.cells #[.string nm, .int .u8 (md : Int)] t (0, 0))) : Box2 w b nm md :=
  ⟨by rw [blk_cell h]; rfl, by rw [blk_cell h]; rfl, blk_frozen h _, blk_frozen h _⟩
theorem Box2.below {B : Nat} {w w' : World} {b : Nat} {nm : ByteArray} {md : Nat} (h : Box2 w b nm md) (hb : Below B w w') (hlt : b < B) : Box2 w' b nm md :=
  ⟨by rw [hb.cell (p := ⟨b, 0, none⟩) hlt]; exact h.c0, by rw [hb.cell (p := ⟨b, 1, none⟩) hlt]; exact h.c1, by rw [hb.frozen (p := ⟨b, 0, none⟩) hlt]; exact h.f0, by rw [hb.frozen (p := ⟨b, 1, none⟩) hlt]; exact h.f1⟩
theorem Box2.set1 {w : World} {b : Nat} {nm : ByteArray} {md : Nat} (h : Box2 w b nm md) (md' : Nat) : Box2 (w.setCell ⟨b, 1, none⟩ (.int .u8 (md' : Int))) b nm md' := by
  refine ⟨?_, World.cell?_setCell_same' _ _ _ (by rw [h.c1]; rfl), by rw [World.frozen?_setCell]; exact h.f0, by rw [World.frozen?_setCell]; exact h.f1⟩
  have := h.c0
  have h1 := h.c1
  simp [go_sem, *]
theorem Box2.off {w : World} {b : Nat} {nm : ByteArray} {md : Nat} (h : Box2 w b nm md) {p : Addr} (hp : b ≠ p.block) (v : Value) : Box2 (w.setCell p v) b nm md :=
  have e := Below.heap_setCell w p v b hp
  ⟨(World.cell?_of_block (w := w) e).trans h.c0, (World.cell?_of_block (w := w) e).trans h.c1, (World.frozen?_of_block (w := w) e).trans h.f0, (World.frozen?_of_block (w := w) e).trans h.f1⟩
theorem parse_any (s : ByteArray) (w : World) (hT : Tabs w) (hs : s.size ≤ 4000000) :
    Calls Tryd.prog 25 #[.string s] w fun e w' => e = .returned (.tuple #[kyV (parseL s.data.toList).1, .int .i64 ((parseL s.data.toList).2.1 : Int), .int .i64 ((parseL s.data.toList).2.2 : Int)]) ∧ Below w.heap.size w w' := by
  have hp0 : parseL s.data.toList = parseG (s.data.toList.length + 1) 0 0 s.data.toList := rfl
  rw [ba_len] at hp0
  have HP0 := hid hp0
  clear hp0
  generalize parseL s.data.toList = Z at *
  go_enter Tryd.func25, Tryd.ntmps25
  go_wp2
  go_loopw [6] (fun v wr => ∃ (r : ByteArray) (md f at_ : Nat), v = .string r ∧ at_ + r.size = s.size ∧ md < 8 ∧ r.size < f ∧ Hid (Z = parseG f md at_ r.data.toList) ∧ Box2 wr w.heap.size { data := #[] } 0 ∧ Box2 wr (w.heap.size + 1) { data := #[] } md ∧ w.heap.size + 1 < wr.heap.size ∧ Below w.heap.size w wr) (fun v _ => strLen v)
  case atStart =>
    refine ⟨s, 0, s.size + 1, 0, rfl, by omega, by omega, by omega, hid HP0.out, ?_, ?_, by simp, ((Below.refl _ _).alloc (Nat.le_refl _) _).alloc (by simp) _⟩
    · exact (Box2.of_heap (World.alloc_heap_new _ _)).below ((Below.refl _ _).alloc (Nat.le_refl _) _) (by simp)
    · have := World.alloc_heap_new (w.alloc (.cells #[.string { data := #[] }, .int .u8 0] 31)) (.cells #[.string { data := #[] }, .int .u8 0] 31)
      simp only [World.size_alloc] at this
      exact Box2.of_heap this
  case round =>
    obtain ⟨r, md, f, at_, rfl, hat, hmd, hf, HZ, hB0, hB1, hlr, hbr⟩ := hrel
    obtain ⟨a0, a1, a2, a3⟩ := hB0
    obtain ⟨b0, b1, b2, b3⟩ := hB1
    have hsr := hbr.size
    have CM := mod_any r wr
    have hmc := modL_cases r.data.toList
    rw [ba_len] at hmc
    obtain ⟨f, rfl⟩ : ∃ g, f = g + 1 := ⟨f - 1, by omega⟩
    have hz := HZ.out
    rw [parseG_at] at hz
    unfold modR at CM
    have hml : (List.drop (modL r.data.toList).2 r.data.toList).length = r.size - (modL r.data.toList).2 := by rw [List.length_drop, ba_len]
    generalize (modL r.data.toList).1 = m at *
    generalize (modL r.data.toList).2 = n at *
    rcases hmc with ⟨rfl, rfl⟩ | ⟨hm, hn1, hn2⟩
    · rw [if_pos rfl] at hz
      rw [List.drop_zero, ba_mk] at CM
      have CN := name_any r wr (tabs_on hT hbr)
      clear hml HZ
      rcases hnb : nmB r.data.toList with _ | _
      · rw [hnb] at CN
        rw [if_neg (by rw [hnb]; decide)] at hz
        have HZ := hid hz
        clear hz hnb
        go_wp2_with fail
        refine CM.mono ?_
        rintro e w2 ⟨rfl, rfl⟩
        go_wp2_with fail
        refine CN.mono ?_
        rintro e w2 ⟨rfl, hb2⟩
        have c0 := ((bcell hb2).1 w.heap.size 0 (by omega)).trans a0
        have c1 := ((bcell hb2).1 w.heap.size 1 (by omega)).trans a1
        have c2 := ((bcell hb2).2 w.heap.size 0 (by omega)).trans a2
        have c3 := ((bcell hb2).2 w.heap.size 1 (by omega)).trans a3
        have hB2 := hbr.trans (hb2.mono hbr.size)
        clear a0 a1 a2 a3 b0 b1 b2 b3 hb2 CM CN
        go_wp2
        refine bodyPost_ret (v := .tuple #[.agg #[.string { data := #[] }, .int .u8 0], .int .i64 ((s.size : Int) - (r.size : Int)), .int .i64 210]) (by simp [results, Tryd.results25, go_sem, *]) rfl ⟨?_, ?_⟩
        · rw [HZ.out]
          show Ending.returned (.tuple #[.agg #[.string { data := #[] }, .int .u8 0], .int .i64 ((s.size : Int) - (r.size : Int)), .int .i64 210]) = .returned (.tuple #[.agg #[.string { data := #[] }, .int .u8 0], .int .i64 (at_ : Int), .int .i64 210])
          rw [show (s.size : Int) - (r.size : Int) = (at_ : Int) by omega]
        · exact (hB2.setCell (p := ⟨w.heap.size, 0, none⟩) (Nat.le_refl _) _).setCell (p := ⟨w.heap.size, 1, none⟩) (Nat.le_refl _) _
      · rw [hnb] at CN
        rw [if_pos hnb] at hz
        have HZ := hid hz
        clear hz hnb
        go_wp2_with fail
        refine CM.mono ?_
        rintro e w2 ⟨rfl, rfl⟩
        go_wp2_with fail
        refine CN.mono ?_
        rintro e w2 ⟨rfl, hb2⟩
        have c0 := ((bcell hb2).1 w.heap.size 0 (by omega)).trans a0
        have c1 := ((bcell hb2).1 w.heap.size 1 (by omega)).trans a1
        have c2 := ((bcell hb2).2 w.heap.size 0 (by omega)).trans a2
        have c3 := ((bcell hb2).2 w.heap.size 1 (by omega)).trans a3
        have d0 := ((bcell hb2).1 (w.heap.size + 1) 0 hlr).trans b0
        have d1 := ((bcell hb2).1 (w.heap.size + 1) 1 hlr).trans b1
        have d2 := ((bcell hb2).2 (w.heap.size + 1) 0 hlr).trans b2
        have d3 := ((bcell hb2).2 (w.heap.size + 1) 1 hlr).trans b3
        have hB2 := hbr.trans (hb2.mono hbr.size)
        clear a0 a1 a2 a3 b0 b1 b2 b3 hb2 CM CN
        go_wp2
        refine bodyPost_ret (v := .tuple #[.agg #[.string r, .int .u8 (md : Int)], .int .i64 0, .int .i64 0]) (by simp [results, Tryd.results25, go_sem, *]) rfl ⟨?_, ?_⟩
        · rw [HZ.out]
          show Ending.returned (.tuple #[.agg #[.string r, .int .u8 (md : Int)], .int .i64 0, .int .i64 0]) = .returned (.tuple #[.agg #[.string ⟨r.data.toList.toArray⟩, .int .u8 (md : Int)], .int .i64 0, .int .i64 0])
          rw [ba_mk]
        · exact ((hB2.setCell (p := ⟨w.heap.size + 1, 0, none⟩) (Nat.le_succ _) _).setCell (p := ⟨w.heap.size, 0, none⟩) (Nat.le_refl _) _).setCell (p := ⟨w.heap.size, 1, none⟩) (Nat.le_refl _) _
    · have hm0 : m ≠ 0 := by omega
      rw [if_neg hm0] at hz
      have hmi : ((m : Int) == 0) = false := beq_eq_false_iff_ne.2 (by omega)
      have hand : bits .and .u8 (md : Int) (m : Int) = ((md &&& m : Nat) : Int) := and_small ⟨md, hmd⟩ ⟨m, by omega⟩
      have hor : bits .or .u8 (md : Int) (m : Int) = ((md ||| m : Nat) : Int) := or_small ⟨md, hmd⟩ ⟨m, by omega⟩
      have hor8 : md ||| m < 8 := Nat.or_lt_two_pow (n := 3) hmd (by omega)
      by_cases ha : md &&& m = 0
      · rw [if_neg (by simpa using ha)] at hz
        rw [ha] at hand
        have HZ := hid hz
        clear hz ha
        go_wp2_with fail
        refine CM.mono ?_
        rintro e w2 ⟨rfl, rfl⟩
        go_wp2
        refine ⟨⟨⟨(List.drop n r.data.toList).toArray⟩, md ||| m, f, at_ + n, rfl, ?_, hor8, ?_, HZ, Box2.off ⟨a0, a1, a2, a3⟩ (by show _ ≠ w.heap.size + 1; omega) _, Box2.set1 ⟨b0, b1, b2, b3⟩ _, by simpa using hlr, hbr.setCell (p := ⟨w.heap.size + 1, 1, none⟩) (Nat.le_succ _) _⟩, ?_⟩
        · rw [← ba_len ⟨_⟩, hml]
          omega
        · rw [← ba_len ⟨_⟩, hml]
          omega
        · show (ByteArray.mk _).size < r.size
          rw [← ba_len ⟨_⟩, hml]
          omega
      · rw [if_pos ha] at hz
        have hai : (((md &&& m : Nat) : Int) == 0) = false := beq_eq_false_iff_ne.2 (by omega)
        have HZ := hid hz
        clear hz
        go_wp2_with fail
        refine CM.mono ?_
        rintro e w2 ⟨rfl, rfl⟩
        go_wp2
        refine bodyPost_ret (v := .tuple #[.agg #[.string { data := #[] }, .int .u8 0], .int .i64 ((s.size : Int) - (r.size : Int)), .int .i64 210]) (by simp [results, Tryd.results25, go_sem, *]) rfl ⟨?_, ?_⟩
        · rw [HZ.out]
          show Ending.returned (.tuple #[.agg #[.string { data := #[] }, .int .u8 0], .int .i64 ((s.size : Int) - (r.size : Int)), .int .i64 210]) = .returned (.tuple #[.agg #[.string { data := #[] }, .int .u8 0], .int .i64 (at_ : Int), .int .i64 210])
          rw [show (s.size : Int) - (r.size : Int) = (at_ : Int) by omega]
        · exact (hbr.setCell (p := ⟨w.heap.size, 0, none⟩) (Nat.le_refl _) _).setCell (p := ⟨w.heap.size, 1, none⟩) (Nat.le_refl _) _
/-! ### the reference's -/
theorem rparse_any (s : ByteArray) (w : World) (hT : Tabs w) (hs : s.size ≤ 4000000) :
    Calls Tryd.prog 32 #[.string s] w fun e w' => e = .returned (.tuple #[kyV (parseL s.data.toList).1, .int .i64 ((parseL s.data.toList).2.1 : Int), .int .i64 ((parseL s.data.toList).2.2 : Int)]) ∧ Below w.heap.size w w' := by
  have hp0 : parseL s.data.toList = parseG (s.data.toList.length + 1) 0 0 s.data.toList := rfl
  rw [ba_len] at hp0
  have HP0 := hid hp0
  clear hp0
  generalize parseL s.data.toList = Z at *
  go_enter Tryd.func32, Tryd.ntmps32
  go_wp2
  go_loopw [6] (fun v wr => ∃ (md f at_ : Nat), v = .int .i64 (at_ : Int) ∧ at_ ≤ s.size ∧ md < 8 ∧ s.size - at_ < f ∧ Hid (Z = parseG f md at_ (s.data.toList.drop at_)) ∧ Box2 wr w.heap.size { data := #[] } 0 ∧ Box2 wr (w.heap.size + 1) { data := #[] } md ∧ w.heap.size + 1 < wr.heap.size ∧ Below w.heap.size w wr) (fun v _ => s.size - (RowKit.intOf v).toNat)
  case atStart =>
    refine ⟨0, s.size + 1, 0, rfl, by omega, by omega, by omega, hid (by rw [List.drop_zero]; exact HP0.out), ?_, ?_, by simp, ((Below.refl _ _).alloc (Nat.le_refl _) _).alloc (by simp) _⟩
    · exact (Box2.of_heap (World.alloc_heap_new _ _)).below ((Below.refl _ _).alloc (Nat.le_refl _) _) (by simp)
    · have := World.alloc_heap_new (w.alloc (.cells #[.string { data := #[] }, .int .u8 0] 31)) (.cells #[.string { data := #[] }, .int .u8 0] 31)
      simp only [World.size_alloc] at this
      exact Box2.of_heap this
  case round =>
    obtain ⟨md, f, at_, rfl, hat, hmd, hf, HZ, hB0, hB1, hlr, hbr⟩ := hrel
    obtain ⟨a0, a1, a2, a3⟩ := hB0
    obtain ⟨b0, b1, b2, b3⟩ := hB1
    have hsr := hbr.size
    have hati : (at_ : Int) ≤ (s.size : Int) := by omega
    have hes : (s.extract at_ s.size).size = s.size - at_ := by rw [ByteArray.size_extract]; omega
    have hed : (s.extract at_ s.size).data.toList = s.data.toList.drop at_ := by rw [ba_drop]
    have CM := rmod_any (s.extract at_ s.size) (by omega) wr
    have hmc := modL_cases (s.extract at_ s.size).data.toList
    rw [ba_len, hes] at hmc
    rw [hed] at hmc CM
    obtain ⟨f, rfl⟩ : ∃ g, f = g + 1 := ⟨f - 1, by omega⟩
    have hz := HZ.out
    rw [parseG_at] at hz
    generalize (modL (s.data.toList.drop at_)).1 = m at *
    generalize (modL (s.data.toList.drop at_)).2 = n at *
    rcases hmc with ⟨rfl, rfl⟩ | ⟨hm, hn1, hn2⟩
    · rw [if_pos rfl] at hz
      have CN := rname_any (s.extract at_ s.size) wr (tabs_on hT hbr) (by omega)
      rw [hed] at CN
      have HED := hid hed
      clear HZ hes hed
      rcases hnb : nmB (s.data.toList.drop at_) with _ | _
      · rw [hnb] at CN
        rw [if_neg (by rw [hnb]; decide)] at hz
        have HZ := hid hz
        clear hz hnb
        go_wp2_with fail
        refine CM.mono ?_
        rintro e w2 ⟨rfl, rfl⟩
        go_wp2_with fail
        refine CN.mono ?_
        rintro e w2 ⟨rfl, hb2⟩
        have c0 := ((bcell hb2).1 w.heap.size 0 (by omega)).trans a0
        have c1 := ((bcell hb2).1 w.heap.size 1 (by omega)).trans a1
        have c2 := ((bcell hb2).2 w.heap.size 0 (by omega)).trans a2
        have c3 := ((bcell hb2).2 w.heap.size 1 (by omega)).trans a3
        have hB2 := hbr.trans (hb2.mono hbr.size)
        clear a0 a1 a2 a3 b0 b1 b2 b3 hb2 CM CN
        go_wp2
        refine bodyPost_ret (v := .tuple #[.agg #[.string { data := #[] }, .int .u8 0], .int .i64 (at_ : Int), .int .i64 210]) (by simp [results, Tryd.results32, go_sem, *]) rfl ⟨?_, ?_⟩
        · rw [HZ.out]
          rfl
        · exact (hB2.setCell (p := ⟨w.heap.size, 0, none⟩) (Nat.le_refl _) _).setCell (p := ⟨w.heap.size, 1, none⟩) (Nat.le_refl _) _
      · rw [hnb] at CN
        rw [if_pos hnb] at hz
        have HZ := hid hz
        clear hz hnb
        go_wp2_with fail
        refine CM.mono ?_
        rintro e w2 ⟨rfl, rfl⟩
        go_wp2_with fail
        refine CN.mono ?_
        rintro e w2 ⟨rfl, hb2⟩
        have c0 := ((bcell hb2).1 w.heap.size 0 (by omega)).trans a0
        have c1 := ((bcell hb2).1 w.heap.size 1 (by omega)).trans a1
        have c2 := ((bcell hb2).2 w.heap.size 0 (by omega)).trans a2
        have c3 := ((bcell hb2).2 w.heap.size 1 (by omega)).trans a3
        have d0 := ((bcell hb2).1 (w.heap.size + 1) 0 hlr).trans b0
        have d1 := ((bcell hb2).1 (w.heap.size + 1) 1 hlr).trans b1
        have d2 := ((bcell hb2).2 (w.heap.size + 1) 0 hlr).trans b2
        have d3 := ((bcell hb2).2 (w.heap.size + 1) 1 hlr).trans b3
        have hB2 := hbr.trans (hb2.mono hbr.size)
        clear a0 a1 a2 a3 b0 b1 b2 b3 hb2 CM CN
        go_wp2
        refine bodyPost_ret (v := .tuple #[.agg #[.string (s.extract at_ s.size), .int .u8 (md : Int)], .int .i64 0, .int .i64 0]) (by simp [results, Tryd.results32, go_sem, *]) rfl ⟨?_, ?_⟩
        · rw [HZ.out]
          show Ending.returned (.tuple #[.agg #[.string (s.extract at_ s.size), .int .u8 (md : Int)], .int .i64 0, .int .i64 0]) = .returned (.tuple #[.agg #[.string ⟨(s.data.toList.drop at_).toArray⟩, .int .u8 (md : Int)], .int .i64 0, .int .i64 0])
          rw [ba_drop]
        · exact ((hB2.setCell (p := ⟨w.heap.size + 1, 0, none⟩) (Nat.le_succ _) _).setCell (p := ⟨w.heap.size, 0, none⟩) (Nat.le_refl _) _).setCell (p := ⟨w.heap.size, 1, none⟩) (Nat.le_refl _) _
    · have hm0 : m ≠ 0 := by omega
      rw [if_neg hm0] at hz
      have hmi : ((m : Int) == 0) = false := beq_eq_false_iff_ne.2 (by omega)
      have hand : bits .and .u8 (md : Int) (m : Int) = ((md &&& m : Nat) : Int) := and_small ⟨md, hmd⟩ ⟨m, by omega⟩
      have hor : bits .or .u8 (md : Int) (m : Int) = ((md ||| m : Nat) : Int) := or_small ⟨md, hmd⟩ ⟨m, by omega⟩
      have hor8 : md ||| m < 8 := Nat.or_lt_two_pow (n := 3) hmd (by omega)
      clear hes hed
      by_cases ha : md &&& m = 0
      · rw [if_neg (by simpa using ha)] at hz
        rw [ha] at hand
        have HZ := hid hz
        clear hz ha
        go_wp2_with fail
        refine CM.mono ?_
        rintro e w2 ⟨rfl, rfl⟩
        go_wp2
        refine ⟨⟨md ||| m, f, at_ + n, by go_num, by omega, hor8, by omega, hid ?_, Box2.off ⟨a0, a1, a2, a3⟩ (by show _ ≠ w.heap.size + 1; omega) _, Box2.set1 ⟨b0, b1, b2, b3⟩ _, by simpa using hlr, hbr.setCell (p := ⟨w.heap.size + 1, 1, none⟩) (Nat.le_succ _) _⟩, ?_⟩
        · rw [← List.drop_drop]
          exact HZ.out
        · simp [RowKit.intOf]
          omega
      · rw [if_pos ha] at hz
        have hai : (((md &&& m : Nat) : Int) == 0) = false := beq_eq_false_iff_ne.2 (by omega)
        have HZ := hid hz
        clear hz
        go_wp2_with fail
        refine CM.mono ?_
        rintro e w2 ⟨rfl, rfl⟩
        go_wp2
        refine bodyPost_ret (v := .tuple #[.agg #[.string { data := #[] }, .int .u8 0], .int .i64 (at_ : Int), .int .i64 210]) (by simp [results, Tryd.results32, go_sem, *]) rfl ⟨?_, ?_⟩
        · rw [HZ.out]
          rfl
        · exact (hbr.setCell (p := ⟨w.heap.size, 0, none⟩) (Nat.le_refl _) _).setCell (p := ⟨w.heap.size, 1, none⟩) (Nat.le_refl _) _
end Go.Proofs.YtddigbhijfpmkaaDoor
