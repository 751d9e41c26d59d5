/- Layer 5: Look, the program's. (Printed by gen_u.py.) -/
import Derived.Test.YtoiondgcjbdonaaDoorStT
namespace Go.Proofs.YtoiondgcjbdonaaDoor
set_option linter.unusedVariables false
set_option linter.unusedSimpArgs false
set_option maxRecDepth 100000
open Go.RowKit Go.Shelf Go.Lib Go.Sort

theorem below_setRow {B : Nat} {a w : World} (h : Below B a w) {g : Nat} (hg : B ≤ g) (cs : Array Value) : Below B a (w.setRow g cs) :=
  h.trans ⟨rfl, rfl, rfl, by simp, fun k hk => setRow_other _ _ _ _ (by omega)⟩
theorem want_tab : ((List.range 16).all fun a => (List.range 256).all fun b => (15 - a) - ((15 - a) &&& b) == 15 - ((a ||| b) % 16)) = true := by kernel_rfl
theorem want_next {a b : Nat} (ha : a < 16) (hb : b < 256) : (15 - a) - ((15 - a) &&& b) = 15 - ((a ||| b) % 16) := by
  have t := List.all_eq_true.1 (List.all_eq_true.1 want_tab a (List.mem_range.2 ha)) b (List.mem_range.2 hb)
  exact beq_iff_eq.1 t
theorem look_info : (Tryd.prog.info? 32).map (·.size) = some 11 := by kernel_rfl
theorem one_lk (x : Lk) : (#[.int .u8 (x.has : Int), .int .u8 (x.col.r : Int), .int .u8 (x.col.g : Int), .int .u8 (x.col.b : Int), .int .u8 (x.col.a : Int), .int .u8 (x.bak.r : Int), .int .u8 (x.bak.g : Int), .int .u8 (x.bak.b : Int), .int .u8 (x.bak.a : Int), .bool x.brd, .int .i64 x.pad] : Array Value).all (·.oneCell') = true := by simp [Value.oneCell']
theorem res_look2 {fn : Func} {p q : Tmp} (h : fn.results = #[.cell p 32, .tmp q]) (tmps : Array Value) (w : World) (g : Nat) (x : Lk) (v : Value)
    (hp : tmps.getD p undef = .pointer (some ⟨g, 0, none⟩)) (hq : tmps.getD q undef = v) (hg : w.heap[g]? = some (.cells #[.int .u8 (x.has : Int), .int .u8 (x.col.r : Int), .int .u8 (x.col.g : Int), .int .u8 (x.col.b : Int), .int .u8 (x.col.a : Int), .int .u8 (x.bak.r : Int), .int .u8 (x.bak.g : Int), .int .u8 (x.bak.b : Int), .int .u8 (x.bak.a : Int), .bool x.brd, .int .i64 x.pad] 32 (0, 0))) :
    (results fn tmps).run Tryd.prog w = .ok (.tuple #[lkV x, v]) w := by
  have hp' : tmps[p]?.getD undef = .pointer (some ⟨g, 0, none⟩) := by simpa using hp
  have hq' : tmps[q]?.getD undef = v := by simpa using hq
  simp [results, h, hp', hq', asAddr, run_loadVar_row w g 32 32 #[.int .u8 (x.has : Int), .int .u8 (x.col.r : Int), .int .u8 (x.col.g : Int), .int .u8 (x.col.b : Int), .int .u8 (x.col.a : Int), .int .u8 (x.bak.r : Int), .int .u8 (x.bak.g : Int), .int .u8 (x.bak.b : Int), .int .u8 (x.bak.a : Int), .bool x.brd, .int .i64 x.pad] (0, 0) _ hg Tryd.underlying32 rfl (by kernel_rfl), lkV]

set_option maxHeartbeats 4000000 in
set_option maxRecDepth 100000 in
theorem Look_bad (B : Nat) (A : Option Addr) (c : Nat) (L : List Ru) (hin : ∀ r ∈ L, r.In) (w : World) (hT : Tabs w) (hA : At B w A (rus L)) (hB : B ≤ w.heap.size) (hl : L.length ≤ 9000000000000000000) (kind st : Nat) (cls : ByteArray) (hc : chkE L ≠ 0) :
    Calls Tryd.prog 13 #[.slice A L.length c, .int .u8 (kind : Int), .string cls, .int .u8 (st : Int)] w fun e w' => e = .returned (.tuple #[lkV Lk.none, .int .i64 (chkE L)]) ∧ Below w.heap.size w w' := by
  have C : ∀ w1, Below w.heap.size w w1 → Calls Tryd.prog 12 #[.slice A L.length c] w1 fun e w' => e = .returned (.tuple #[.slice none 0 0, .int .i64 (chkE L)]) ∧ Below w1.heap.size w1 w' := fun w1 h =>
    Order_bad w.heap.size A c L hin w1 (tabs_on hT h) ((hA.mono hB).below h) h.size hl hc
  generalize chkE L = E at *
  have hz : (E != 0) = true := by simpa using hc
  have HC := hid C
  clear hc hA hT C
  go_enter Tryd.func13, Tryd.ntmps13
  go_wp2_with fail
  refine (HC.out _ (by repeat (first | exact Below.refl _ _ | with_reducible refine Below.alloc ?_ (by first | (simp; done) | (simp; omega) | omega) _ | with_reducible refine Below.setCell ?_ (by first | (simp; done) | (simp; omega) | omega) _ | with_reducible refine Below.drew ?_ | with_reducible refine Below.trans ?_ (Below.mono (by assumption) (by first | (simp; done) | (simp; omega) | omega))))).mono ?_
  rintro e w1 ⟨rfl, hb1⟩
  have hblk : w1.heap[w.heap.size]? = some (.cells #[.int .u8 0, .int .u8 0, .int .u8 0, .int .u8 0, .int .u8 0, .int .u8 0, .int .u8 0, .int .u8 0, .int .u8 0, .bool false, .int .i64 0] 32 (0, 0)) := (hb1.block _ (by simp)).trans (heap_alloc_new _ _)
  have HB := hid hb1
  clear hb1
  go_wp2_with (refine wpList_store_row rfl 32 (.tmp 8) (.tmp 24) rfl w.heap.size #[.int .u8 0, .int .u8 0, .int .u8 0, .int .u8 0, .int .u8 0, .int .u8 0, .int .u8 0, .int .u8 0, .int .u8 0, .bool false, .int .i64 0] rfl rfl 32 _ hblk look_info rfl (one_lk Lk.none) ?_)
  refine bodyPost_ret (res_look2 rfl _ _ w.heap.size Lk.none _ rfl rfl ?hg) rfl ⟨rfl, ?hb⟩
  case hg => exact setRow_heap _ _ _ _ _ _ hblk
  case hb => exact below_setRow (((Below.refl _ _).alloc (Nat.le_refl _) _).trans (HB.out.mono (by simp))) (Nat.le_refl _) _

/-- What stays while the rules are gone through: the order, the pieces, the look so far. -/
structure LkSt (w : World) (L : List Ru) (PB : List ByteArray) (g cb ob : Nat) (out : Lk) (wr : World) : Prop where
  bel : Below w.heap.size w wr
  own : wr.ownsRow w.heap.size 3 1 (.slice (some ⟨g, 0, none⟩) L.length L.length) L.length (ints (ordI L))
  pcs : At wr.heap.size wr (some ⟨cb, 0, none⟩) (strs PB)
  res : wr.heap[w.heap.size]? = some (.cells #[.int .u8 0, .int .u8 0, .int .u8 0, .int .u8 0, .int .u8 0, .int .u8 0, .int .u8 0, .int .u8 0, .int .u8 0, .bool false, .int .i64 0] 32 (0, 0))
  now : wr.heap[ob]? = some (.cells #[.int .u8 (out.has : Int), .int .u8 (out.col.r : Int), .int .u8 (out.col.g : Int), .int .u8 (out.col.b : Int), .int .u8 (out.col.a : Int), .int .u8 (out.bak.r : Int), .int .u8 (out.bak.g : Int), .int .u8 (out.bak.b : Int), .int .u8 (out.bak.a : Int), .bool out.brd, .int .i64 out.pad] 32 (0, 0))
  cbo : cb ≠ ob
  go : g ≠ ob
  wo : w.heap.size < ob
theorem LkSt.on {w wr w' : World} {L : List Ru} {PB : List ByteArray} {g cb ob : Nat} {out : Lk} (h : LkSt w L PB g cb ob out wr) (hb : Below wr.heap.size wr w') : LkSt w L PB g cb ob out w' where
  bel := h.bel.trans (hb.mono h.bel.size)
  own := own_below' h.own hb
  pcs := (h.pcs.ext hb).mono hb.size
  res := (hb.block _ (lt_of_block h.res)).trans h.res
  now := (hb.block _ (lt_of_block h.now)).trans h.now
  cbo := h.cbo
  go := h.go
  wo := h.wo
theorem own_setRow {w : World} {base g n cap k : Nat} {xs : List Value} {e : TypeId} {size : Nat} (h : w.ownsRow base e size (.slice (some ⟨g, 0, none⟩) n cap) n xs) (hk : g ≠ k) (cs : Array Value) : (w.setRow k cs).ownsRow base e size (.slice (some ⟨g, 0, none⟩) n cap) n xs := by
  refine ⟨h.1, ?_⟩
  rcases h.2 with h2 | ⟨g', cap', cur, hv, hg, hh, r⟩
  · exact .inl h2
  · cases hv
    exact .inr ⟨g, cap, cur, rfl, hg, by rw [setRow_other _ _ _ _ hk]; exact hh, r⟩
theorem LkSt.put {w wr : World} {L : List Ru} {PB : List ByteArray} {g cb ob : Nat} {out u : Lk} (h : LkSt w L PB g cb ob out wr) : LkSt w L PB g cb ob u (wr.setRow ob #[.int .u8 (u.has : Int), .int .u8 (u.col.r : Int), .int .u8 (u.col.g : Int), .int .u8 (u.col.b : Int), .int .u8 (u.col.a : Int), .int .u8 (u.bak.r : Int), .int .u8 (u.bak.g : Int), .int .u8 (u.bak.b : Int), .int .u8 (u.bak.a : Int), .bool u.brd, .int .i64 u.pad]) where
  bel := below_setRow h.bel (by have := h.wo; omega) _
  own := own_setRow h.own h.go _
  pcs := by
    intro hn
    obtain ⟨g', o, hA, hg, hc⟩ := h.pcs hn
    cases hA
    exact ⟨cb, 0, rfl, by simpa using hg, fun j v hj => by rw [cell_setRow_other _ _ _ _ (by exact h.cbo)]; exact hc j v hj⟩
  res := by rw [setRow_other _ _ _ _ (by have := h.wo; omega)]; exact h.res
  now := setRow_heap _ _ _ _ _ _ h.now
  cbo := h.cbo
  go := h.go
  wo := h.wo

set_option maxHeartbeats 8000000 in
set_option maxRecDepth 100000 in
theorem Look_ok (B : Nat) (A : Option Addr) (c : Nat) (L : List Ru) (hin : ∀ r ∈ L, r.In) (w : World) (hT : Tabs w) (hA : At B w A (rus L)) (hB : B ≤ w.heap.size) (kind st : Nat) (hst : st < 256) (cls : ByteArray) (hs : cls.size ≤ 5000) (hc : chkE L = 0) :
    Calls Tryd.prog 13 #[.slice A L.length c, .int .u8 (kind : Int), .string cls, .int .u8 (st : Int)] w fun e w' => e = .returned (.tuple #[lkV (foldO (fR L) (hR L kind cls.data.toList st) (ordN L) Lk.none), .int .i64 0]) ∧ Below w.heap.size w w' := by
  have hl := chk_len hc
  have C : ∀ w1, Below w.heap.size w w1 → Calls Tryd.prog 12 #[.slice A L.length c] w1 (OrdE L w1) := fun w1 h =>
    Order_ok w.heap.size A c L hin w1 (tabs_on hT h) ((hA.mono hB).below h) h.size hc
  have hpl : (pcsB cls).length ≤ 5001 + 1 := by
    rw [pcsB_len]
    have := Lib.count_le cls.data.toList [32]
    have e : cls.data.toList.length = cls.size := by simp
    show Lib.countB cls _ + 1 ≤ _
    unfold Lib.countB
    show Lib.count cls.data.toList [32] + 1 ≤ _
    omega
  have HS : Hid (∀ w1, Below w.heap.size w w1 → Calls Tryd.prog 36 #[.string cls, .string { data := #[32] }] w1 fun e w' => e = .returned (.slice (some ⟨w1.heap.size, 0, none⟩) (pcsB cls).length (pcsB cls).length) ∧ w1.alloc (.cells (strs (pcsB cls)).toArray 9) = w') := hid fun w1 hb => split_any cls w1 (tabs_on hT hb) (by omega)
  have HA : Hid (∀ w1, Below w.heap.size w w1 → At w.heap.size w1 A (rus L)) := hid fun w1 hb => (hA.mono hB).below hb
  have HI := hid hin
  have hPd : ∀ i (h : i < L.length), hR L kind cls.data.toList st i = holdsB L[i] kind (pcsB cls) st := fun i h => by rw [hR_get h, holdsB_pcs]
  have hf8 : ∀ i ∈ ordN L, (fR L i).has < 256 := fun i hi => by rw [fR_get (ordN_mem i hi)]; exact (hin _ (List.getElem_mem (ordN_mem i hi))).2.2.1.1
  generalize hR L kind cls.data.toList st = P at *
  generalize pcsB cls = PB at *
  have HP := hid hPd
  have HF := hid hf8
  have hol := ordN_len L
  have HL := hid hol
  have HOB := hid (@ordN_mem L)
  have HC := hid C
  clear hc hA hT hin hPd hol C hf8
  go_enter Tryd.func13, Tryd.ntmps13
  go_wp2_with fail
  refine (HC.out _ (by repeat (first | exact Below.refl _ _ | with_reducible refine Below.alloc ?_ (by first | (simp; done) | (simp; omega) | omega) _ | with_reducible refine Below.setCell ?_ (by first | (simp; done) | (simp; omega) | omega) _ | with_reducible refine Below.drew ?_ | with_reducible refine Below.trans ?_ (Below.mono (by assumption) (by first | (simp; done) | (simp; omega) | omega))))).mono ?_
  rintro e w1 ⟨g, rfl, hown1, hb1⟩
  have hs1 := hb1.size
  (try simp at hs1)
  have HO1 := hid (And.intro hown1 hb1)
  have hbw1 : Below w.heap.size w w1 := ((Below.refl _ _).alloc (Nat.le_refl _) _).trans (hb1.mono (by simp))
  have HW1 := hid hbw1
  clear hown1 hb1 hbw1
  go_wp2_with (go_at_call 36; refine (HS.out _ HW1.out).mono ?_; rintro e w3 ⟨rfl, rfl⟩)
  have hst0 : LkSt w L PB g w1.heap.size (w1.heap.size + 1) Lk.none ((w1.alloc (.cells (strs PB).toArray 9)).alloc (.cells #[.int .u8 0, .int .u8 0, .int .u8 0, .int .u8 0, .int .u8 0, .int .u8 0, .int .u8 0, .int .u8 0, .int .u8 0, .bool false, .int .i64 0] 32)) := {
    bel := (HW1.out.alloc HW1.out.size _).alloc (by have := HW1.out.size; simp; omega) _
    own := own_below' (own_below' (own_mono HO1.out.1 (by simp)) ((Below.refl _ _).alloc (Nat.le_refl _) _)) ((Below.refl _ _).alloc (Nat.le_refl _) _)
    pcs := by
      intro _
      refine ⟨w1.heap.size, 0, rfl, by simp; omega, fun j v hj => ?_⟩
      rw [Nat.zero_add]
      have h1 : ((w1.alloc (.cells (strs PB).toArray 9)).alloc (.cells #[.int .u8 0, .int .u8 0, .int .u8 0, .int .u8 0, .int .u8 0, .int .u8 0, .int .u8 0, .int .u8 0, .int .u8 0, .bool false, .int .i64 0] 32)).heap[w1.heap.size]? = some (.cells (strs PB).toArray 9 (0, 0)) := heap_alloc2_old _ _ _
      rw [blk_cell h1]
      simpa using hj
    res := by
      rw [heap_alloc_old _ _ (by simp; omega), heap_alloc_old _ _ (by omega), HO1.out.2.block _ (by simp)]
      exact heap_alloc_new _ _
    now := by
      have h := heap_alloc2_new w1 (.cells (strs PB).toArray 9) (.cells #[.int .u8 0, .int .u8 0, .int .u8 0, .int .u8 0, .int .u8 0, .int .u8 0, .int .u8 0, .int .u8 0, .int .u8 0, .bool false, .int .i64 0] 32)
      exact h
    cbo := by omega
    go := by have := (HO1.out.1.lt g rfl).2; omega
    wo := by omega }
  have HX := hid hst0
  have hcb : w1.heap.size < ((w1.alloc (.cells (strs PB).toArray 9)).alloc (.cells #[.int .u8 0, .int .u8 0, .int .u8 0, .int .u8 0, .int .u8 0, .int .u8 0, .int .u8 0, .int .u8 0, .int .u8 0, .bool false, .int .i64 0] 32)).heap.size := by simp; omega
  have HCB := hid hcb
  clear hst0 hcb
  generalize (w1.alloc (.cells (strs PB).toArray 9)).alloc (.cells #[.int .u8 0, .int .u8 0, .int .u8 0, .int .u8 0, .int .u8 0, .int .u8 0, .int .u8 0, .int .u8 0, .int .u8 0, .bool false, .int .i64 0] 32) = W at *
  generalize w1.heap.size = cb at *
  have hwo := HX.out.wo
  go_loopg [14, 15] L.length (fun gh v14 v15 wr => ∃ (k q : Nat) (out : Lk), v15 = .int .i64 ((k : Int) - 1) ∧ v14 = .int .u8 (q : Int) ∧ k ≤ L.length ∧ k ≤ gh ∧ Hid (out.has < 16 ∧ q = 15 - out.has) ∧ Hid (LkSt w L PB g cb (cb + 1) out wr) ∧ Hid (foldO (fR L) P ((ordN L).take k) out = foldO (fR L) P (ordN L) Lk.none))
  case atStart => exact ⟨L.length, 15, Lk.none, by go_num, rfl, by omega, by omega, hid ⟨by decide, rfl⟩, HX, hid (by rw [List.take_of_length_le (by rw [HL.out]; omega)])⟩
  case round =>
    obtain ⟨k, q, out, rfl, rfl, hk, hgk, HQ, HS', HFo⟩ := hrel
    have hend : k = 0 ∨ q = 0 → foldO (fR L) P (ordN L) Lk.none = out := fun h => by
      rw [← HFo.out]
      rcases h with rfl | h
      · rw [List.take_zero, foldO_nil]
      · exact foldO_full (fun i hi => HF.out i (List.mem_of_mem_take hi)) (by have := HQ.out; omega)
    have HE := hid hend
    clear hend
    have hgo : (k = 0 ∨ q = 0) ∨ (0 < k ∧ 0 < q) := by omega
    rcases hgo with hx | ⟨h0, hq0⟩
    · have hF := HE.out hx
      have HH := hid hF
      clear hF
      have kb := blk_cell HS'.out.now
      have hcase : (¬ (0 : Int) ≤ (k : Int) - 1) ∨ ((0 : Int) ≤ (k : Int) - 1 ∧ ((q : Int) != 0) = false) := by
        rcases hx with h | h
        · left; omega
        · by_cases hk0 : 0 < k
          · right; exact ⟨by omega, by simp [h]⟩
          · left; omega
      clear hx
      have sres := HS'.out.res
      rcases hcase with hz | ⟨hz, hz2⟩
      · skip
        go_wp2_with (refine wpList_store_row rfl 32 (.tmp 8) (.tmp 60) rfl w.heap.size #[.int .u8 (out.has : Int), .int .u8 (out.col.r : Int), .int .u8 (out.col.g : Int), .int .u8 (out.col.b : Int), .int .u8 (out.col.a : Int), .int .u8 (out.bak.r : Int), .int .u8 (out.bak.g : Int), .int .u8 (out.bak.b : Int), .int .u8 (out.bak.a : Int), .bool out.brd, .int .i64 out.pad] rfl rfl 32 _ sres look_info rfl (one_lk out) ?_)
        rw [HH.out]
        refine bodyPost_ret (res_look2 rfl _ _ w.heap.size out _ rfl rfl ?ehg) rfl ⟨rfl, ?ehb⟩
        case ehg => exact setRow_heap _ _ _ _ _ _ sres
        case ehb => exact below_setRow HS'.out.bel (Nat.le_refl _) _
      · skip
        go_wp2_with (refine wpList_store_row rfl 32 (.tmp 8) (.tmp 60) rfl w.heap.size #[.int .u8 (out.has : Int), .int .u8 (out.col.r : Int), .int .u8 (out.col.g : Int), .int .u8 (out.col.b : Int), .int .u8 (out.col.a : Int), .int .u8 (out.bak.r : Int), .int .u8 (out.bak.g : Int), .int .u8 (out.bak.b : Int), .int .u8 (out.bak.a : Int), .bool out.brd, .int .i64 out.pad] rfl rfl 32 _ sres look_info rfl (one_lk out) ?_)
        rw [HH.out]
        refine bodyPost_ret (res_look2 rfl _ _ w.heap.size out _ rfl rfl ?fhg) rfl ⟨rfl, ?fhb⟩
        case fhg => exact setRow_heap _ _ _ _ _ _ sres
        case fhb => exact below_setRow HS'.out.bel (Nat.le_refl _) _
    · obtain ⟨m, rfl⟩ : ∃ m, k = m + 1 := ⟨k - 1, by omega⟩
      have hz : (0 : Int) ≤ ((m + 1 : Nat) : Int) - 1 := by omega
      have hz2 : ((q : Int) != 0) = true := by simp; omega
      have hqe : ((m + 1 : Nat) : Int) - 1 = (m : Int) := by omega
      rw [hqe] at *
      have hlt : m < (ordN L).length := by rw [HL.out]; omega
      have hqz : (m : Int) < (L.length : Int) := by omega
      have hlo := HOB.out _ (List.getElem_mem hlt)
      obtain ⟨go, oo, hgo', hgo, n0⟩ := (ordI_at HS'.out.own).int (k := m) (by simpa using hlt)
      cases hgo'
      rw [List.getElem_map, Nat.zero_add] at n0
      have hfo : foldO (fR L) P ((ordN L).take m) (if P (ordN L)[m] then underL out (fR L (ordN L)[m]) else out) = foldO (fR L) P (ordN L) Lk.none := by
        rw [← HFo.out, List.take_succ_eq_append_getElem hlt, foldO_snoc]
      generalize (ordN L)[m] = a at *
      have n0 : wr.cell? ⟨g, m, none⟩ = some (.int .i64 (a : Int)) := n0
      obtain ⟨gr, oR, rfl, hg, c0, c1, c2, c3, c4, c5, c6, c7, c8, c9, c10, c11, c12, c13⟩ := (HA.out _ HS'.out.bel).ru hlo
      have hin := HI.out _ (List.getElem_mem hlo)
      have hPa := HP.out a hlo
      have hfa : fR L a = L[a].look := fR_get hlo
      rw [hfa] at hfo
      generalize L[a] = r at *
      clear hfa
      have hai : (a : Int) < (L.length : Int) := by omega
      have hsz := HS'.out.bel.size
      have gw : gr < wr.heap.size := by omega
      have gow : g < wr.heap.size := by omega
      have obw : cb + 1 < wr.heap.size := lt_of_block HS'.out.now
      have hr8 := hin.2.2.1.1
      have HC : Hid (∀ w', Below wr.heap.size wr w' → Calls Tryd.prog 37 #[.agg #[.int .u8 (r.kind : Int), .string r.cls, .int .u8 (r.st : Int), .int .u8 (r.look.has : Int), .int .u8 (r.look.col.r : Int), .int .u8 (r.look.col.g : Int), .int .u8 (r.look.col.b : Int), .int .u8 (r.look.col.a : Int), .int .u8 (r.look.bak.r : Int), .int .u8 (r.look.bak.g : Int), .int .u8 (r.look.bak.b : Int), .int .u8 (r.look.bak.a : Int), .bool r.look.brd, .int .i64 r.look.pad], .int .u8 (kind : Int), .slice (some ⟨cb, 0, none⟩) PB.length PB.length, .int .u8 (st : Int)] w' fun e w'' => e = .returned (.bool (holdsB r kind PB st)) ∧ Below w'.heap.size w' w'') :=
        hid fun w' hb => holds_any r hin kind st hst PB _ _ w'.heap.size w' (HS'.out.on hb).pcs (Nat.le_refl _) (by omega)
      have HU : Hid (∀ w', Calls Tryd.prog 22 #[.agg #[.int .u8 (out.has : Int), .int .u8 (out.col.r : Int), .int .u8 (out.col.g : Int), .int .u8 (out.col.b : Int), .int .u8 (out.col.a : Int), .int .u8 (out.bak.r : Int), .int .u8 (out.bak.g : Int), .int .u8 (out.bak.b : Int), .int .u8 (out.bak.a : Int), .bool out.brd, .int .i64 out.pad], .agg #[.int .u8 (r.look.has : Int), .int .u8 (r.look.col.r : Int), .int .u8 (r.look.col.g : Int), .int .u8 (r.look.col.b : Int), .int .u8 (r.look.col.a : Int), .int .u8 (r.look.bak.r : Int), .int .u8 (r.look.bak.g : Int), .int .u8 (r.look.bak.b : Int), .int .u8 (r.look.bak.a : Int), .bool r.look.brd, .int .i64 r.look.pad]] w' fun e w'' => e = .returned (.agg #[.int .u8 ((underL out r.look).has : Int), .int .u8 ((underL out r.look).col.r : Int), .int .u8 ((underL out r.look).col.g : Int), .int .u8 ((underL out r.look).col.b : Int), .int .u8 ((underL out r.look).col.a : Int), .int .u8 ((underL out r.look).bak.r : Int), .int .u8 ((underL out r.look).bak.g : Int), .int .u8 ((underL out r.look).bak.b : Int), .int .u8 ((underL out r.look).bak.a : Int), .bool (underL out r.look).brd, .int .i64 (underL out r.look).pad]) ∧ Below w'.heap.size w' w'') := hid fun w' => under_any out r.look (by have := HQ.out; omega) hr8 w'
      have hn : bits .andNot .u8 (q : Int) (r.look.has : Int) = ((15 - (underL out r.look).has : Nat) : Int) := by
        obtain ⟨h1, h2⟩ := HQ.out
        rw [andNot8 q r.look.has (by omega) hr8, h2, want_next h1 hr8]
        rfl
      have hu16 := under_lt out r.look
      rw [hPa] at hfo
      generalize underL out r.look = u at *
      have HFO := hid hfo
      have HN := hid hn
      have HU16 := hid hu16
      clear hfo hPa hin hqe hn hu16 HFo HE
      generalize holdsB r kind PB st = H at *
      have hbx : Below wr.heap.size wr (wr.alloc (.cells #[.int .u8 (r.kind : Int), .string r.cls, .int .u8 (r.st : Int), .int .u8 (r.look.has : Int), .int .u8 (r.look.col.r : Int), .int .u8 (r.look.col.g : Int), .int .u8 (r.look.col.b : Int), .int .u8 (r.look.col.a : Int), .int .u8 (r.look.bak.r : Int), .int .u8 (r.look.bak.g : Int), .int .u8 (r.look.bak.b : Int), .int .u8 (r.look.bak.a : Int), .bool r.look.brd, .int .i64 r.look.pad] 46)) := (Below.refl _ _).alloc (Nat.le_refl _) _
      cases H with
      | false =>
        go_wp2_with (go_at_call 37; refine (HC.out _ hbx).mono ?_; rintro e w5 ⟨rfl, hb5⟩)
        go_roundg m
        case measure => omega
        case rel => exact ⟨m, q, out, by go_num, rfl, by omega, by omega, HQ, hid (HS'.out.on (hbx.trans (hb5.mono hbx.size))), hid (by have := HFO.out; simpa using this)⟩
      | true =>
        go_wp2_with (go_at_call 37; refine (HC.out _ hbx).mono ?_; rintro e w5 ⟨rfl, hb5⟩; obtain ⟨hc5, hf5⟩ := bcell hb5; have hs5 := hb5.size; (try simp at hs5); have z5 : wr.heap.size < wr.heap.size + 1 := (by omega); have y5 : wr.heap.size < w5.heap.size := (by omega); have kb := blk_cell (HS'.out.on (hbx.trans (hb5.mono hbx.size))).now)
        refine (HU.out _).mono ?_
        rintro e w6 ⟨rfl, hb6⟩
        have hb56 := hbx.trans ((hb5.mono hbx.size).trans (hb6.mono (Nat.le_trans hbx.size hb5.size)))
        have S6 := HS'.out.on hb56
        have snow := S6.now
        have c6 : (w6.setRow (cb + 1) #[.int .u8 (u.has : Int), .int .u8 (u.col.r : Int), .int .u8 (u.col.g : Int), .int .u8 (u.col.b : Int), .int .u8 (u.col.a : Int), .int .u8 (u.bak.r : Int), .int .u8 (u.bak.g : Int), .int .u8 (u.bak.b : Int), .int .u8 (u.bak.a : Int), .bool u.brd, .int .i64 u.pad]).cell? ⟨wr.heap.size, 3, none⟩ = some (.int .u8 (r.look.has : Int)) := by
          rw [cell_setRow_other _ _ _ _ (by show wr.heap.size ≠ cb + 1; omega), hb6.cell (p := ⟨wr.heap.size, 3, none⟩) y5, hb5.cell (p := ⟨wr.heap.size, 3, none⟩) (by simp)]
          simp
        have SP := hid (S6.put (u := u))
        clear S6 hb56
        have hnn := HN.out
        go_wp2_with (refine wpList_store_row rfl 32 (.tmp 13) (.tmp 54) rfl (cb + 1) #[.int .u8 (u.has : Int), .int .u8 (u.col.r : Int), .int .u8 (u.col.g : Int), .int .u8 (u.col.b : Int), .int .u8 (u.col.a : Int), .int .u8 (u.bak.r : Int), .int .u8 (u.bak.g : Int), .int .u8 (u.bak.b : Int), .int .u8 (u.bak.a : Int), .bool u.brd, .int .i64 u.pad] rfl rfl 32 _ snow look_info rfl (one_lk u) ?_)
        go_roundg m
        case measure => omega
        case rel => exact ⟨m, 15 - u.has, u, by go_num, rfl, by omega, by omega, hid ⟨HU16.out, rfl⟩, SP, hid (by have := HFO.out; simpa using this)⟩
end Go.Proofs.YtoiondgcjbdonaaDoor
