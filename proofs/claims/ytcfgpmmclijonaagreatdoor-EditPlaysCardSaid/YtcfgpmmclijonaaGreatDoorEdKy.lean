/- Layer 25: Key, of whatever key that is no undo and no redo. Printed by gen_ky.py. -/
import Derived.Test.YtcfgpmmclijonaaGreatDoorEdRt
namespace Go.Proofs.YtcfgpmmclijonaaGreatDoor
set_option linter.unusedVariables false
set_option linter.unusedSimpArgs false
set_option maxRecDepth 100000
open Go.RowKit Go.Shelf Go.Lib
set_option maxRecDepth 100000
set_option maxHeartbeats 16000000

theorem typedE_len (s : ByteArray) (bl : Bool) (hs : s.size ≤ 1000000) : (typedE s bl).size ≤ 1000000 := by
  unfold typedE
  repeat' split
  all_goals first | exact hs | decide
def KPost (w : World) (g : Nat) (E : Ed) (a : KAct) : Ending → World → Prop := fun e w' => ∃ did err E', e = .returned (.tuple #[.bool did, .int .i64 err]) ∧ EdS w' g E' ∧ w.grownBy w' (some g) ∧
  did = (decide (err = 0) && !txEq E'.b E.b (E'.x : Int) (E.x : Int) (E'.y : Int) (E.y : Int)) ∧ KRes w w' E a err E'
/-- A key that may not be. -/
theorem Key_bad {w : World} {g : Nat} {E : Ed} (hT : Tabs w) (h : EdS w g E) (s : ByteArray) (md : Nat) (hm : mayB ⟨s.data.toList, md⟩ = false) :
    Calls Tryz.prog 9 #[.pointer (some ⟨g, 0, none⟩), .agg #[.string s, .int .u8 (md : Int)]] w fun e w' => e = .returned (.tuple #[.bool false, .int .i64 210]) ∧ EdS w' g E ∧ w.grownBy w' (some g) := by
  have lg := h.lt
  obtain ⟨W, hW⟩ : ∃ W, (((w.alloc (.cells #[.pointer (some ⟨g, 0, none⟩)] 23)).alloc (.cells #[.string s, .int .u8 (md : Int)] 32)).alloc (.cells #[.bool false] 4)).alloc (.cells #[.int .i64 0] 24) = W := ⟨_, rfl⟩
  have hB : Below w.heap.size w W := by
    rw [← hW]
    exact ((((Below.refl _ _).alloc (Nat.le_refl _) _).alloc (by simp) _).alloc (by first | (simp; done) | (simp; omega)) _).alloc (by first | (simp; done) | (simp; omega)) _
  have hs : W.heap.size = w.heap.size + 1 + 1 + 1 + 1 := by rw [← hW]; simp
  have n0 : W.heap[w.heap.size]? = some (.cells #[.pointer (some ⟨g, 0, none⟩)] 23 (0, 0)) := by
    rw [← hW, Below.heap_alloc _ _ _ (by first | (simp; done) | (simp; omega)), Below.heap_alloc _ _ _ (by first | (simp; done) | (simp; omega)), Below.heap_alloc _ _ _ (by simp)]
    exact World.alloc_heap_new _ _
  have n1 : W.heap[w.heap.size + 1]? = some (.cells #[.string s, .int .u8 (md : Int)] 32 (0, 0)) := by
    rw [← hW, Below.heap_alloc _ _ _ (by first | (simp; done) | (simp; omega)), Below.heap_alloc _ _ _ (by simp)]
    simpa using World.alloc_heap_new (w.alloc (.cells #[.pointer (some ⟨g, 0, none⟩)] 23)) (.cells #[.string s, .int .u8 (md : Int)] 32)
  have n2 : W.heap[w.heap.size + 1 + 1]? = some (.cells #[.bool false] 4 (0, 0)) := by
    rw [← hW, Below.heap_alloc _ _ _ (by simp)]
    simpa using World.alloc_heap_new ((w.alloc (.cells #[.pointer (some ⟨g, 0, none⟩)] 23)).alloc (.cells #[.string s, .int .u8 (md : Int)] 32)) (.cells #[.bool false] 4)
  have n3 : W.heap[w.heap.size + 1 + 1 + 1]? = some (.cells #[.int .i64 0] 24 (0, 0)) := by
    rw [← hW]
    simpa using World.alloc_heap_new (((w.alloc (.cells #[.pointer (some ⟨g, 0, none⟩)] 23)).alloc (.cells #[.string s, .int .u8 (md : Int)] 32)).alloc (.cells #[.bool false] 4)) (.cells #[.int .i64 0] 24)
  have hE := h.on hB
  have HT := hid hT
  have HW := hid hW
  have HE := hid hE
  have N0 := hid n0
  have N1 := hid n1
  have N2 := hid n2
  have N3 := hid n3
  clear h hT hW n0 n1 n2 n3 hE
  have CT := fun w1 hT => Text_any s md w1 hT
  unfold textT at CT
  rw [hm, if_neg (by decide)] at CT
  have hmf : ∀ (fn : Fn) (first cap : Array Value) (w : World), (Instr.makeFunc fn first cap).run Tryz.prog w = .ok (.func fn first cap) w := fun _ _ _ _ => rfl
  go_enter_defers Tryz.func9, Tryz.ntmps9
  go_wp2_with fail
  rw [HW.out]
  with_reducible refine (is_any HE.out).mono ?_
  rintro e w1 ⟨rfl, hb1⟩
  have m1 := (hb1.block _ (lt_of_block N1.out)).trans N1.out
  have k0 : w1.cell? ⟨w.heap.size + 1, 0, none⟩ = some (.string s) := by rw [blk_cell m1]; rfl
  have k1 : w1.cell? ⟨w.heap.size + 1, 1, none⟩ = some (.int .u8 (md : Int)) := by rw [blk_cell m1]; rfl
  have CT1 := CT w1 (tabs_on HT.out (hB.trans (hb1.mono hB.size)))
  clear CT m1
  go_wp2_with fail
  with_reducible refine CT1.mono ?_
  rintro e w2 ⟨rfl, hb2⟩
  have hB2 := hb1.trans (hb2.mono hb1.size)
  have p2 := (hB2.block _ (lt_of_block N2.out)).trans N2.out
  have p3 := (hB2.block _ (lt_of_block N3.out)).trans N3.out
  have d2 : w2.cell? ⟨w.heap.size + 1 + 1, 0, none⟩ = some (.bool false) := by rw [blk_cell p2]; rfl
  have d3 : w2.cell? ⟨w.heap.size + 1 + 1 + 1, 0, none⟩ = some (.int .i64 0) := by rw [blk_cell p3]; rfl
  have f2 := blk_frozen p2 0
  have f3 := blk_frozen p3 0
  have hs2 := hB2.size
  have hE7 : EdS ((w2.setCell ⟨w.heap.size + 1 + 1, 0, none⟩ (.bool false)).setCell ⟨w.heap.size + 1 + 1 + 1, 0, none⟩ (.int .i64 210)) g E := store_off (store_off (HE.out.on hB2) (by omega)) (by omega)
  have hg7 : w.grownBy ((w2.setCell ⟨w.heap.size + 1 + 1, 0, none⟩ (.bool false)).setCell ⟨w.heap.size + 1 + 1 + 1, 0, none⟩ (.int .i64 210)) (some g) := grown_new (grown_new (grown_below (hB.trans (hB2.mono hB.size)) (World.grownBy.refl _ _)) (by omega)) (by omega)
  have h27 : ((w2.setCell ⟨w.heap.size + 1 + 1, 0, none⟩ (.bool false)).setCell ⟨w.heap.size + 1 + 1 + 1, 0, none⟩ (.int .i64 210)).heap[w.heap.size + 1 + 1]? = some (.cells #[.bool false] 4 (0, 0)) := store_off (store_in p2) (by omega)
  have h37 : ((w2.setCell ⟨w.heap.size + 1 + 1, 0, none⟩ (.bool false)).setCell ⟨w.heap.size + 1 + 1 + 1, 0, none⟩ (.int .i64 210)).heap[w.heap.size + 1 + 1 + 1]? = some (.cells #[.int .i64 210] 24 (0, 0)) := store_in (store_off p3 (by omega))
  have r20 : ((w2.setCell ⟨w.heap.size + 1 + 1, 0, none⟩ (.bool false)).setCell ⟨w.heap.size + 1 + 1 + 1, 0, none⟩ (.int .i64 210)).cell? ⟨w.heap.size + 1 + 1, 0, none⟩ = some (.bool false) := by rw [blk_cell h27]; rfl
  have r30 : ((w2.setCell ⟨w.heap.size + 1 + 1, 0, none⟩ (.bool false)).setCell ⟨w.heap.size + 1 + 1 + 1, 0, none⟩ (.int .i64 210)).cell? ⟨w.heap.size + 1 + 1 + 1, 0, none⟩ = some (.int .i64 210) := by rw [blk_cell h37]; rfl
  have HE7 := hid hE7
  have HG7 := hid hg7
  have HR := hid (And.intro r20 r30)
  clear CT1 k0 k1 p2 p3 hE7 hg7 h27 h37 r20 r30
  go_wp2
  obtain ⟨r20, r30⟩ := HR.out
  exact ⟨.tuple #[.bool false, .int .i64 210], by simp [results, Tryz.results9, go_sem, r30, r20], rfl, HE7.out, HG7.out⟩
theorem Key_any {w : World} {g : Nat} {E : Ed} (hT : Tabs w) (h : EdS w g E) (hb : E.b.size ≤ 65536) (hx : E.x ≤ E.b.size) (hy : E.y ≤ E.b.size) (hk : E.k < 256) (s : ByteArray) (md : Nat) (hm : mayB ⟨s.data.toList, md⟩ = true)
    (hz : (decide (s = ⟨#[122]⟩) && decide (md = 2)) = false) (hyz : ((decide (s = ⟨#[121]⟩) && decide (md = 2)) || (decide (s = ⟨#[122]⟩) && decide (md = 3))) = false) :
    Calls Tryz.prog 9 #[.pointer (some ⟨g, 0, none⟩), .agg #[.string s, .int .u8 (md : Int)]] w (KPost w g E (keyE E.b E.x E.y s md)) := by
  have lg : g < w.heap.size := h.lt
  have hnm := nm_len (l := s.data.toList) (by
    unfold mayB at hm
    rw [Bool.and_eq_true] at hm
    exact hm.2)
  rw [ba_len] at hnm
  have hmd : md < 8 := by
    unfold mayB at hm
    rw [Bool.and_eq_true] at hm
    have hq : md ≤ 7 := of_decide_eq_true hm.1
    omega
  have md_b := md_bits ⟨md, hmd⟩
  simp only at md_b
  obtain ⟨W, hW⟩ : ∃ W, (((w.alloc (.cells #[.pointer (some ⟨g, 0, none⟩)] 23)).alloc (.cells #[.string s, .int .u8 (md : Int)] 32)).alloc (.cells #[.bool false] 4)).alloc (.cells #[.int .i64 0] 24) = W := ⟨_, rfl⟩
  have hB : Below w.heap.size w W := by
    rw [← hW]
    exact ((((Below.refl _ _).alloc (Nat.le_refl _) _).alloc (by simp) _).alloc (by first | (simp; done) | (simp; omega)) _).alloc (by first | (simp; done) | (simp; omega)) _
  have hs : W.heap.size = w.heap.size + 1 + 1 + 1 + 1 := by rw [← hW]; simp
  have n0 : W.heap[w.heap.size]? = some (.cells #[.pointer (some ⟨g, 0, none⟩)] 23 (0, 0)) := by
    rw [← hW, Below.heap_alloc _ _ _ (by first | (simp; done) | (simp; omega)), Below.heap_alloc _ _ _ (by first | (simp; done) | (simp; omega)), Below.heap_alloc _ _ _ (by simp)]
    exact World.alloc_heap_new _ _
  have n1 : W.heap[w.heap.size + 1]? = some (.cells #[.string s, .int .u8 (md : Int)] 32 (0, 0)) := by
    rw [← hW, Below.heap_alloc _ _ _ (by first | (simp; done) | (simp; omega)), Below.heap_alloc _ _ _ (by simp)]
    simpa using World.alloc_heap_new (w.alloc (.cells #[.pointer (some ⟨g, 0, none⟩)] 23)) (.cells #[.string s, .int .u8 (md : Int)] 32)
  have n2 : W.heap[w.heap.size + 1 + 1]? = some (.cells #[.bool false] 4 (0, 0)) := by
    rw [← hW, Below.heap_alloc _ _ _ (by simp)]
    simpa using World.alloc_heap_new ((w.alloc (.cells #[.pointer (some ⟨g, 0, none⟩)] 23)).alloc (.cells #[.string s, .int .u8 (md : Int)] 32)) (.cells #[.bool false] 4)
  have n3 : W.heap[w.heap.size + 1 + 1 + 1]? = some (.cells #[.int .i64 0] 24 (0, 0)) := by
    rw [← hW]
    simpa using World.alloc_heap_new (((w.alloc (.cells #[.pointer (some ⟨g, 0, none⟩)] 23)).alloc (.cells #[.string s, .int .u8 (md : Int)] 32)).alloc (.cells #[.bool false] 4)) (.cells #[.int .i64 0] 24)
  have hE := h.on hB
  have HT := hid hT
  have HW := hid hW
  have HE := hid hE
  have N0 := hid n0
  have N1 := hid n1
  have N2 := hid n2
  have N3 := hid n3
  have HZ := hid hz
  have HYZ := hid hyz
  have HMB := hid md_b
  clear h hT hW n0 n1 n2 n3 hE hz hyz md_b
  have CT := fun w1 hT => Text_any s md w1 hT
  unfold textT at CT
  rw [hm, if_pos rfl] at CT
  have hmf : ∀ (fn : Fn) (first cap : Array Value) (w : World), (Instr.makeFunc fn first cap).run Tryz.prog w = .ok (.func fn first cap) w := fun _ _ _ _ => rfl
  have HA := hid (show goesE E.b E.x E.y s (altB md) (ctrlB md) (!shiftB md && !ctrlB md) = none → keyE E.b E.x E.y s md =
    (if (decide (s = bsB) && !altB md) = true then .ed ⟨#[]⟩ (if min E.x E.y = max E.x E.y then (if ctrlB md then lrowE E.b.data.toList (max E.x E.y) else leftE E.b.data.toList (max E.x E.y)) else min E.x E.y) (max E.x E.y)
    else if (decide (s = deB) && !altB md) = true then .ed ⟨#[]⟩ (min E.x E.y) (if min E.x E.y = max E.x E.y then (if ctrlB md then rwordE E.b.data.toList (min E.x E.y) else rightE E.b.data.toList (min E.x E.y)) else max E.x E.y)
    else if (decide (s = ⟨#[97]⟩) && decide (md = 2)) = true then .go E.b.size 0
    else if (typedE s (ctrlB md || altB md)).size = 0 then .no
    else .ed (typedE s (ctrlB md || altB md)) (min E.x E.y) (max E.x E.y)) from fun hG => by unfold keyE; rw [hG])
  unfold KPost
  go_enter_defers Tryz.func9, Tryz.ntmps9
  go_wp2_with fail
  rw [HW.out]
  with_reducible refine (is_any HE.out).mono ?_
  rintro e w1 ⟨rfl, hb1⟩
  have m1 := (hb1.block _ (lt_of_block N1.out)).trans N1.out
  have k0 : w1.cell? ⟨w.heap.size + 1, 0, none⟩ = some (.string s) := by rw [blk_cell m1]; rfl
  have k1 : w1.cell? ⟨w.heap.size + 1, 1, none⟩ = some (.int .u8 (md : Int)) := by rw [blk_cell m1]; rfl
  have CT1 := CT w1 (tabs_on HT.out (hB.trans (hb1.mono hB.size)))
  clear CT m1
  go_wp2_with fail
  with_reducible refine CT1.mono ?_
  rintro e w2 ⟨rfl, hb2⟩
  have hB2 := hb1.trans (hb2.mono hb1.size)
  have m0 := (hB2.block _ (lt_of_block N0.out)).trans N0.out
  have m1 := (hB2.block _ (lt_of_block N1.out)).trans N1.out
  have m2 := (hB2.block _ (lt_of_block N2.out)).trans N2.out
  have m3 := (hB2.block _ (lt_of_block N3.out)).trans N3.out
  have e2 := HE.out.on hB2
  have hs2 := hB2.size
  clear CT1 k0 k1
  have k0 : w2.cell? ⟨w.heap.size, 0, none⟩ = some (.pointer (some ⟨g, 0, none⟩)) := by rw [blk_cell m0]; rfl
  have k1 : w2.cell? ⟨w.heap.size + 1, 0, none⟩ = some (.string s) := by rw [blk_cell m1]; rfl
  have k2 : w2.cell? ⟨w.heap.size + 1, 1, none⟩ = some (.int .u8 (md : Int)) := by rw [blk_cell m1]; rfl
  have HM := hid (And.intro m0 (And.intro m1 (And.intro m2 m3)))
  have HE2' := hid e2
  have hB2w := hB.trans (hB2.mono hB.size)
  have HB2' := hid hB2w
  clear m0 m1 m2 m3 e2 hb1 hb2
  go_upto_region 7 with fail
  go_cut [29] from 30 to 37 (fun v wx => v = .bool false ∧ wx = w2)
  case first =>
    have hz := HZ.out
    by_cases n : s = ⟨#[122]⟩
    · subst n
      rw [decide_eq_true rfl, Bool.true_and] at hz
      have q1 : ((md : Int) == 2) = false := beq_eq_false_iff_ne.2 (by have := of_decide_eq_false hz; omega)
      have q2 : decide ((md : Int) = 2) = false := decide_eq_false (by have := of_decide_eq_false hz; omega)
      go_wp2
      go_meet
      exact ⟨rfl, rfl⟩
    · have t := str_ne (l := [122]) n
      go_wp2
      go_meet
      exact ⟨rfl, rfl⟩
  case rest =>
  obtain ⟨rfl, hwc⟩ := hcut
  subst hwc
  go_upto_region 9 with fail
  go_cut [42] from 43 to 50 (fun v wx => v = .bool false ∧ wx = wc)
  case first =>
    have hyz := HYZ.out
    rw [Bool.or_eq_false_iff] at hyz
    obtain ⟨y1, y2⟩ := hyz
    by_cases n2 : s = ⟨#[121]⟩
    · subst n2
      rw [decide_eq_true rfl, Bool.true_and] at y1
      have q1 : ((md : Int) == 2) = false := beq_eq_false_iff_ne.2 (by have := of_decide_eq_false y1; omega)
      have q2 : decide ((md : Int) = 2) = false := decide_eq_false (by have := of_decide_eq_false y1; omega)
      go_wp2
      go_meet
      exact ⟨rfl, rfl⟩
    · have t2 := str_ne (l := [121]) n2
      go_wp2
      go_meet
      exact ⟨rfl, rfl⟩
  case rest =>
  obtain ⟨rfl, hwc⟩ := hcut
  subst hwc
  generalize wc = w2 at *
  go_upto_region 10 with fail
  go_cut [42] from 51 to 58 (fun v wx => v = .bool false ∧ wx = w2)
  case first =>
    have hyz := HYZ.out
    rw [Bool.or_eq_false_iff] at hyz
    obtain ⟨y1, y2⟩ := hyz
    by_cases n : s = ⟨#[122]⟩
    · subst n
      rw [decide_eq_true rfl, Bool.true_and] at y2
      have q1 : ((md : Int) == 3) = false := beq_eq_false_iff_ne.2 (by have := of_decide_eq_false y2; omega)
      have q2 : decide ((md : Int) = 3) = false := decide_eq_false (by have := of_decide_eq_false y2; omega)
      go_wp2
      go_meet
      exact ⟨rfl, rfl⟩
    · have t := str_ne (l := [122]) n
      go_wp2
      go_meet
      exact ⟨rfl, rfl⟩
  case rest =>
  obtain ⟨rfl, hwc⟩ := hcut
  subst hwc
  generalize wc = w2 at *
  have c1 := HE2'.out.cells.2.1
  have c2 := HE2'.out.cells.2.2.1
  have c3 := HE2'.out.cells.2.2.2.1
  have lg2 := HE2'.out.lt
  have hA := (Below.refl w2.heap.size w2).alloc (Nat.le_refl _) (.cells #[.string E.b, .int .i64 (E.x : Int), .int .i64 (E.y : Int)] 39)
  have hbef : (w2.alloc (.cells #[.string E.b, .int .i64 (E.x : Int), .int .i64 (E.y : Int)] 39)).heap[w2.heap.size]? = some (.cells #[.string E.b, .int .i64 (E.x : Int), .int .i64 (E.y : Int)] 39 (0, 0)) := World.alloc_heap_new _ _
  have hkb : KB w.heap.size w2.heap.size g s md E (w2.alloc (.cells #[.string E.b, .int .i64 (E.x : Int), .int .i64 (E.y : Int)] 39)) :=
    ⟨(hA.block _ (lt_of_block HM.out.1)).trans HM.out.1, (hA.block _ (lt_of_block HM.out.2.1)).trans HM.out.2.1, (hA.block _ (lt_of_block HM.out.2.2.1)).trans HM.out.2.2.1, (hA.block _ (lt_of_block HM.out.2.2.2)).trans HM.out.2.2.2, hbef⟩
  have HKB2 := hid hkb
  have HE2 := hid (HE2'.out.on hA)
  have HB2 := hid (HB2'.out.trans (hA.mono HB2'.out.size))
  have hsw2 : w.heap.size + 4 ≤ w2.heap.size := by omega
  have l0 : w.heap.size < w2.heap.size := by omega
  have l1 : w.heap.size + 1 < w2.heap.size := by omega
  have md_b := HMB.out
  have CG := goes_any HE2.out (tabs_on HT.out HB2.out) (by omega) hx s md (altB md) (ctrlB md) (!shiftB md && !ctrlB md) _ _ _ rfl md_b.1 rfl md_b.2.2.1 rfl md_b.2.2.2.2.1
  have hmdi : (md : Int) < 8 := by omega
  clear hbef hA hkb HE2' HB2' HM HMB N0 N1 N2 N3 HE HZ HYZ
  have k3 : True := trivial
  have k4 : True := trivial
  have k5 : True := trivial
  have k6 : True := trivial
  cases hG : goesE E.b E.x E.y s (altB md) (ctrlB md) (!shiftB md && !ctrlB md) with
  | some z =>
    have hact : keyE E.b E.x E.y s md = .go z (if shiftB md then E.y else z) := by unfold keyE; rw [hG]
    rw [hG] at CG
    simp only [Option.getD_some, Option.isSome_some] at CG
    clear hG
    go_wp2_with fail
    with_reducible refine CG.mono ?_
    rintro e w3 ⟨rfl, hb3⟩
    have kb3 := HKB2.out.on hb3
    have e3 := HE2.out.on hb3
    have hB3 := HB2.out.trans (hb3.mono HB2.out.size)
    have CO := to_any e3 z (shiftB md)
    have HK3 := hid kb3
    have HB3 := hid hB3
    obtain ⟨j0, j1, j2, j3, j4, j5, j6⟩ := kb3.cells
    clear k0 k1 k2 k3 k4 k5 k6 c1 CG kb3 e3 hB3 hb3
    have a1 := md_b.2.2.2.1
    go_wp2_with fail
    with_reducible refine CO.mono ?_
    rintro e w4 ⟨rfl, h4, hg4⟩
    have kb4 := HK3.out.grown hg4 lg (by omega)
    have hg40 : w.grownBy w4 (some g) := grown_below HB3.out hg4
    have h4' : EdS w4 g { E with x := z, y := if shiftB md then E.y else z } := h4
    clear j0 j1 j2 j3 j4 j5 j6 CO a1 h4
    have CH := key_fin (w := w) (E' := { E with x := z, y := if shiftB md then E.y else z }) kb4 h4' hg40 rfl (by omega) lg 0
    have HCH := hid CH
    have HKB := hid kb4
    obtain ⟨k0, k1, k2, k3, k4, k5, k6⟩ := kb4.cells
    clear CH kb4 h4' hg4 hg40
    go_wp2
    refine leaves_cons (f := 28) (args := #[.pointer (some ⟨w.heap.size + 1 + 1 + 1, 0, none⟩), .pointer (some ⟨w.heap.size, 0, none⟩), .pointer (some ⟨w2.heap.size, 0, none⟩), .pointer (some ⟨w.heap.size + 1 + 1, 0, none⟩)]) (by simp) (by simp [go_sem]) ?_
    refine HCH.out.mono ?_
    rintro e u' w9 ⟨rfl, rfl, hE9, r30, r20, hg9, hk9⟩
    refine ⟨.tuple #[.bool (decide (0 = 0) && !txEq ({ E with x := z, y := if shiftB md then E.y else z }).b E.b (({ E with x := z, y := if shiftB md then E.y else z }).x : Int) (E.x : Int) (({ E with x := z, y := if shiftB md then E.y else z }).y : Int) (E.y : Int)), .int .i64 0], by simp [results, Tryz.results9, go_sem, r30, r20], _, 0, { E with x := z, y := if shiftB md then E.y else z }, rfl, hE9, hg9, rfl, ?_⟩
    rw [hact]
    exact ⟨rfl, rfl⟩
  | none =>
    have hact := HA.out hG
    rw [hG] at CG
    simp only [Option.getD_none, Option.isSome_none] at CG
    clear hG HA
    have HACT := hid hact
    clear hact
    go_wp2_with fail
    with_reducible refine CG.mono ?_
    rintro e w3 ⟨rfl, hb3⟩
    have kb3 := HKB2.out.on hb3
    have e3 := HE2.out.on hb3
    have hB3 := HB2.out.trans (hb3.mono HB2.out.size)
    have CS := span_any e3
    obtain ⟨lo, hlo⟩ : ∃ z, min E.x E.y = z := ⟨_, rfl⟩
    obtain ⟨hi, hhi⟩ : ∃ z, max E.x E.y = z := ⟨_, rfl⟩
    rw [hlo, hhi] at CS
    have hact := HACT.out
    rw [hlo, hhi] at hact
    have HACT2 := hid hact
    have n1 : lo ≤ hi := by omega
    have n2 : hi ≤ E.b.size := by omega
    have HK3 := hid kb3
    have HE3 := hid e3
    have HB3 := hid hB3
    obtain ⟨j0, j1, j2, j3, j4, j5, j6⟩ := kb3.cells
    clear k0 k1 k2 k3 k4 k5 k6 c1 CG kb3 e3 hB3 hb3 HACT hact hlo hhi HKB2 HE2 HB2
    go_wp2_with fail
    with_reducible refine CS.mono ?_
    rintro e wq ⟨rfl, hbq⟩
    have kbq := HK3.out.on hbq
    have eq_ := HE3.out.on hbq
    have hBq := HB3.out.trans (hbq.mono HB3.out.size)
    obtain ⟨k0, k1, k2, k3, k4, k5, k6⟩ := kbq.cells
    have c1 := eq_.cells.2.1
    have lgq := eq_.lt
    have lkq := lt_of_block kbq.n0
    clear j0 j1 j2 j3 j4 j5 j6 CS hbq HK3 HE3 HB3
    have a4 := md_b.1
    have a4' := md_b.2.1
    have a2 := md_b.2.2.1
    have HKQ := hid kbq
    have HEQ := hid eq_
    have HBQ := hid hBq
    clear kbq eq_ hBq
    obtain ⟨X1, hX1⟩ : ∃ X, (decide (s = bsB) && !altB md) = X := ⟨_, rfl⟩
    have HX1 := hid hX1
    clear hX1
    go_upto_region 20 with fail
    go_cut [91] from 92 to 100 (fun v wx => v = .bool X1 ∧ wx = wq)
    case first =>
      have hX1 := HX1.out
      by_cases n : s = ⟨#[98, 97, 99, 107, 115, 112, 97, 99, 101]⟩
      · subst n
        rw [show decide ((⟨#[98, 97, 99, 107, 115, 112, 97, 99, 101]⟩ : ByteArray) = bsB) = true by decide, Bool.true_and] at hX1
        rw [hX1] at a4'
        go_wp2
        go_meet
        exact ⟨rfl, rfl⟩
      · have t := str_ne (l := [98, 97, 99, 107, 115, 112, 97, 99, 101]) n
        rw [show decide (s = bsB) = false from decide_eq_false n, Bool.false_and] at hX1
        subst hX1
        go_wp2
        go_meet
        exact ⟨rfl, rfl⟩
    case rest =>
    obtain ⟨rfl, rfl⟩ := hcut
    cases X1 with
    | true =>
      have hact := HACT2.out
      rw [if_pos HX1.out] at hact
      by_cases hlh : lo = hi
      · rw [if_pos hlh] at hact
        subst hlh
        cases hrow : ctrlB md with
        | true =>
          rw [hrow, if_pos rfl] at hact
          rw [hrow] at a2
          have hTc := tabs_on HT.out HBQ.out
          have CL := lrow_any E.b lo wc hTc (by omega) n2
          have hle := lrowE_le E.b.data.toList lo

          obtain ⟨z, hz⟩ : ∃ z, lrowE E.b.data.toList lo = z := ⟨_, rfl⟩
          rw [hz] at CL hact hle
          have HACT3 := hid hact
          clear hact hz hrow hTc
          go_wp2_with fail
          with_reducible refine CL.mono ?_
          rintro e wq ⟨rfl, hbq⟩
          have kbq := HKQ.out.on hbq
          have eq_ := HEQ.out.on hbq
          have hBq := HBQ.out.trans (hbq.mono HBQ.out.size)
          have lgq := eq_.lt
          have lkq := lt_of_block kbq.n0
          clear CL HKQ HEQ HBQ hbq
          have CC := change_all (w := wq) (E := E) eq_ ⟨#[]⟩ (z) (lo) hle n2 hb (by decide) hk
          clear k0 k1 k2 k3 k4 k5 k6 c1 lgq lkq
          obtain ⟨k0, k1, k2, k3, k4, k5, k6⟩ := kbq.cells
          have HKQ := hid kbq
          have hsq := hBq.size
          have HBQ := hid hBq
          clear kbq hBq eq_
          go_wp2_with fail
          with_reducible refine CC.mono ?_
          rintro e w6 ⟨err, E', rfl, hE6, hR6, hg6⟩
          have kb6 := HKQ.out.grown hg6 lg (by omega)
          have hg60 : w.grownBy w6 (some g) := grown_below HBQ.out hg6
          have HR6 := hid (And.intro hR6 kb6)
          clear CC k0 k1 k2 k3 k4 k5 k6
          have CH := key_fin (w := w) (E' := E') kb6 hE6 hg60 rfl (by omega) lg err
          have HCH := hid CH
          have HKB := hid kb6
          obtain ⟨k0, k1, k2, k3, k4, k5, k6⟩ := kb6.cells
          clear CH kb6 hE6 hg6 hg60 hR6
          go_wp2
          refine leaves_cons (f := 28) (args := #[.pointer (some ⟨w.heap.size + 1 + 1 + 1, 0, none⟩), .pointer (some ⟨w.heap.size, 0, none⟩), .pointer (some ⟨w2.heap.size, 0, none⟩), .pointer (some ⟨w.heap.size + 1 + 1, 0, none⟩)]) (by simp) (by simp [go_sem]) ?_
          refine HCH.out.mono ?_
          rintro e u' w9 ⟨rfl, rfl, hE9, r30, r20, hg9, hk9⟩
          refine ⟨.tuple #[.bool (decide (err = 0) && !txEq (E').b E.b ((E').x : Int) (E.x : Int) ((E').y : Int) (E.y : Int)), .int .i64 err], by simp [results, Tryz.results9, go_sem, r30, r20], _, err, E', rfl, hE9, hg9, rfl, ?_⟩
          rw [HACT3.out]
          exact ChRes.lift HR6.out.1 hsq HR6.out.2 hk9
        | false =>
          rw [hrow, if_neg (by decide)] at hact
          rw [hrow] at a2
          have hTc := tabs_on HT.out HBQ.out
          have CL := left_any E.b lo wc (by omega) n2
          have hle := leftE_le E.b.data.toList lo

          obtain ⟨z, hz⟩ : ∃ z, leftE E.b.data.toList lo = z := ⟨_, rfl⟩
          rw [hz] at CL hact hle
          have HACT3 := hid hact
          clear hact hz hrow hTc
          go_wp2_with fail
          with_reducible refine CL.mono ?_
          rintro e wq ⟨rfl, hbq⟩
          have kbq := HKQ.out.on hbq
          have eq_ := HEQ.out.on hbq
          have hBq := HBQ.out.trans (hbq.mono HBQ.out.size)
          have lgq := eq_.lt
          have lkq := lt_of_block kbq.n0
          clear CL HKQ HEQ HBQ hbq
          have CC := change_all (w := wq) (E := E) eq_ ⟨#[]⟩ (z) (lo) hle n2 hb (by decide) hk
          clear k0 k1 k2 k3 k4 k5 k6 c1 lgq lkq
          obtain ⟨k0, k1, k2, k3, k4, k5, k6⟩ := kbq.cells
          have HKQ := hid kbq
          have hsq := hBq.size
          have HBQ := hid hBq
          clear kbq hBq eq_
          go_wp2_with fail
          with_reducible refine CC.mono ?_
          rintro e w6 ⟨err, E', rfl, hE6, hR6, hg6⟩
          have kb6 := HKQ.out.grown hg6 lg (by omega)
          have hg60 : w.grownBy w6 (some g) := grown_below HBQ.out hg6
          have HR6 := hid (And.intro hR6 kb6)
          clear CC k0 k1 k2 k3 k4 k5 k6
          have CH := key_fin (w := w) (E' := E') kb6 hE6 hg60 rfl (by omega) lg err
          have HCH := hid CH
          have HKB := hid kb6
          obtain ⟨k0, k1, k2, k3, k4, k5, k6⟩ := kb6.cells
          clear CH kb6 hE6 hg6 hg60 hR6
          go_wp2
          refine leaves_cons (f := 28) (args := #[.pointer (some ⟨w.heap.size + 1 + 1 + 1, 0, none⟩), .pointer (some ⟨w.heap.size, 0, none⟩), .pointer (some ⟨w2.heap.size, 0, none⟩), .pointer (some ⟨w.heap.size + 1 + 1, 0, none⟩)]) (by simp) (by simp [go_sem]) ?_
          refine HCH.out.mono ?_
          rintro e u' w9 ⟨rfl, rfl, hE9, r30, r20, hg9, hk9⟩
          refine ⟨.tuple #[.bool (decide (err = 0) && !txEq (E').b E.b ((E').x : Int) (E.x : Int) ((E').y : Int) (E.y : Int)), .int .i64 err], by simp [results, Tryz.results9, go_sem, r30, r20], _, err, E', rfl, hE9, hg9, rfl, ?_⟩
          rw [HACT3.out]
          exact ChRes.lift HR6.out.1 hsq HR6.out.2 hk9
      · rw [if_neg hlh] at hact
        have q1 : ((lo : Int) == (hi : Int)) = false := beq_eq_false_iff_ne.2 (by omega)
        have q2 : ¬ (lo : Int) = (hi : Int) := by omega
        have HACT3 := hid hact
        clear hact
        have kbq := HKQ.out
        have eq_ := HEQ.out
        have hBq := HBQ.out
        clear HKQ HEQ HBQ
        generalize wc = wq at *
        have CC := change_all (w := wq) (E := E) eq_ ⟨#[]⟩ (lo) (hi) n1 n2 hb (by decide) hk
        clear k0 k1 k2 k3 k4 k5 k6 c1 lgq lkq
        obtain ⟨k0, k1, k2, k3, k4, k5, k6⟩ := kbq.cells
        have HKQ := hid kbq
        have hsq := hBq.size
        have HBQ := hid hBq
        clear kbq hBq eq_
        go_wp2_with fail
        with_reducible refine CC.mono ?_
        rintro e w6 ⟨err, E', rfl, hE6, hR6, hg6⟩
        have kb6 := HKQ.out.grown hg6 lg (by omega)
        have hg60 : w.grownBy w6 (some g) := grown_below HBQ.out hg6
        have HR6 := hid (And.intro hR6 kb6)
        clear CC k0 k1 k2 k3 k4 k5 k6
        have CH := key_fin (w := w) (E' := E') kb6 hE6 hg60 rfl (by omega) lg err
        have HCH := hid CH
        have HKB := hid kb6
        obtain ⟨k0, k1, k2, k3, k4, k5, k6⟩ := kb6.cells
        clear CH kb6 hE6 hg6 hg60 hR6
        go_wp2
        refine leaves_cons (f := 28) (args := #[.pointer (some ⟨w.heap.size + 1 + 1 + 1, 0, none⟩), .pointer (some ⟨w.heap.size, 0, none⟩), .pointer (some ⟨w2.heap.size, 0, none⟩), .pointer (some ⟨w.heap.size + 1 + 1, 0, none⟩)]) (by simp) (by simp [go_sem]) ?_
        refine HCH.out.mono ?_
        rintro e u' w9 ⟨rfl, rfl, hE9, r30, r20, hg9, hk9⟩
        refine ⟨.tuple #[.bool (decide (err = 0) && !txEq (E').b E.b ((E').x : Int) (E.x : Int) ((E').y : Int) (E.y : Int)), .int .i64 err], by simp [results, Tryz.results9, go_sem, r30, r20], _, err, E', rfl, hE9, hg9, rfl, ?_⟩
        rw [HACT3.out]
        exact ChRes.lift HR6.out.1 hsq HR6.out.2 hk9
    | false =>
      obtain ⟨X2, hX2⟩ : ∃ X, (decide (s = deB) && !altB md) = X := ⟨_, rfl⟩
      have HX2 := hid hX2
      clear hX2
      generalize wc = wq at *
      go_upto_region 24 with fail
      go_cut [116] from 117 to 125 (fun v wx => v = .bool X2 ∧ wx = wq)
      case first =>
        have hX2 := HX2.out
        by_cases n : s = ⟨#[100, 101, 108, 101, 116, 101]⟩
        · subst n
          rw [show decide ((⟨#[100, 101, 108, 101, 116, 101]⟩ : ByteArray) = deB) = true by decide, Bool.true_and] at hX2
          rw [hX2] at a4'
          go_wp2
          go_meet
          exact ⟨rfl, rfl⟩
        · have t := str_ne (l := [100, 101, 108, 101, 116, 101]) n
          rw [show decide (s = deB) = false from decide_eq_false n, Bool.false_and] at hX2
          subst hX2
          go_wp2
          go_meet
          exact ⟨rfl, rfl⟩
      case rest =>
      obtain ⟨rfl, rfl⟩ := hcut
      cases X2 with
      | true =>
        have hact := HACT2.out
        rw [if_neg (by rw [HX1.out]; decide), if_pos HX2.out] at hact
        by_cases hlh : lo = hi
        · rw [if_pos hlh] at hact
          subst hlh
          cases hrow : ctrlB md with
          | true =>
            rw [hrow, if_pos rfl] at hact
            rw [hrow] at a2
            have hTc := tabs_on HT.out HBQ.out
            have CL := rword_any E.b lo wc hTc (by omega)
            have hle := rwordE_ge E.b.data.toList (a := lo) (by rw [ba_len]; exact n2)
            rw [ba_len] at hle
            obtain ⟨z, hz⟩ : ∃ z, rwordE E.b.data.toList lo = z := ⟨_, rfl⟩
            rw [hz] at CL hact hle
            have HACT3 := hid hact
            clear hact hz hrow hTc
            go_wp2_with fail
            with_reducible refine CL.mono ?_
            rintro e wq ⟨rfl, hbq⟩
            have kbq := HKQ.out.on hbq
            have eq_ := HEQ.out.on hbq
            have hBq := HBQ.out.trans (hbq.mono HBQ.out.size)
            have lgq := eq_.lt
            have lkq := lt_of_block kbq.n0
            clear CL HKQ HEQ HBQ hbq
            have CC := change_all (w := wq) (E := E) eq_ ⟨#[]⟩ (lo) (z) hle.1 hle.2 hb (by decide) hk
            clear k0 k1 k2 k3 k4 k5 k6 c1 lgq lkq
            obtain ⟨k0, k1, k2, k3, k4, k5, k6⟩ := kbq.cells
            have HKQ := hid kbq
            have hsq := hBq.size
            have HBQ := hid hBq
            clear kbq hBq eq_
            go_wp2_with fail
            with_reducible refine CC.mono ?_
            rintro e w6 ⟨err, E', rfl, hE6, hR6, hg6⟩
            have kb6 := HKQ.out.grown hg6 lg (by omega)
            have hg60 : w.grownBy w6 (some g) := grown_below HBQ.out hg6
            have HR6 := hid (And.intro hR6 kb6)
            clear CC k0 k1 k2 k3 k4 k5 k6
            have CH := key_fin (w := w) (E' := E') kb6 hE6 hg60 rfl (by omega) lg err
            have HCH := hid CH
            have HKB := hid kb6
            obtain ⟨k0, k1, k2, k3, k4, k5, k6⟩ := kb6.cells
            clear CH kb6 hE6 hg6 hg60 hR6
            go_wp2
            refine leaves_cons (f := 28) (args := #[.pointer (some ⟨w.heap.size + 1 + 1 + 1, 0, none⟩), .pointer (some ⟨w.heap.size, 0, none⟩), .pointer (some ⟨w2.heap.size, 0, none⟩), .pointer (some ⟨w.heap.size + 1 + 1, 0, none⟩)]) (by simp) (by simp [go_sem]) ?_
            refine HCH.out.mono ?_
            rintro e u' w9 ⟨rfl, rfl, hE9, r30, r20, hg9, hk9⟩
            refine ⟨.tuple #[.bool (decide (err = 0) && !txEq (E').b E.b ((E').x : Int) (E.x : Int) ((E').y : Int) (E.y : Int)), .int .i64 err], by simp [results, Tryz.results9, go_sem, r30, r20], _, err, E', rfl, hE9, hg9, rfl, ?_⟩
            rw [HACT3.out]
            exact ChRes.lift HR6.out.1 hsq HR6.out.2 hk9
          | false =>
            rw [hrow, if_neg (by decide)] at hact
            rw [hrow] at a2
            have hTc := tabs_on HT.out HBQ.out
            have CL := right_any E.b lo wc (by omega)
            have hle := rightE_ge E.b.data.toList (a := lo) (by rw [ba_len]; exact n2)
            rw [ba_len] at hle
            obtain ⟨z, hz⟩ : ∃ z, rightE E.b.data.toList lo = z := ⟨_, rfl⟩
            rw [hz] at CL hact hle
            have HACT3 := hid hact
            clear hact hz hrow hTc
            go_wp2_with fail
            with_reducible refine CL.mono ?_
            rintro e wq ⟨rfl, hbq⟩
            have kbq := HKQ.out.on hbq
            have eq_ := HEQ.out.on hbq
            have hBq := HBQ.out.trans (hbq.mono HBQ.out.size)
            have lgq := eq_.lt
            have lkq := lt_of_block kbq.n0
            clear CL HKQ HEQ HBQ hbq
            have CC := change_all (w := wq) (E := E) eq_ ⟨#[]⟩ (lo) (z) hle.1 hle.2 hb (by decide) hk
            clear k0 k1 k2 k3 k4 k5 k6 c1 lgq lkq
            obtain ⟨k0, k1, k2, k3, k4, k5, k6⟩ := kbq.cells
            have HKQ := hid kbq
            have hsq := hBq.size
            have HBQ := hid hBq
            clear kbq hBq eq_
            go_wp2_with fail
            with_reducible refine CC.mono ?_
            rintro e w6 ⟨err, E', rfl, hE6, hR6, hg6⟩
            have kb6 := HKQ.out.grown hg6 lg (by omega)
            have hg60 : w.grownBy w6 (some g) := grown_below HBQ.out hg6
            have HR6 := hid (And.intro hR6 kb6)
            clear CC k0 k1 k2 k3 k4 k5 k6
            have CH := key_fin (w := w) (E' := E') kb6 hE6 hg60 rfl (by omega) lg err
            have HCH := hid CH
            have HKB := hid kb6
            obtain ⟨k0, k1, k2, k3, k4, k5, k6⟩ := kb6.cells
            clear CH kb6 hE6 hg6 hg60 hR6
            go_wp2
            refine leaves_cons (f := 28) (args := #[.pointer (some ⟨w.heap.size + 1 + 1 + 1, 0, none⟩), .pointer (some ⟨w.heap.size, 0, none⟩), .pointer (some ⟨w2.heap.size, 0, none⟩), .pointer (some ⟨w.heap.size + 1 + 1, 0, none⟩)]) (by simp) (by simp [go_sem]) ?_
            refine HCH.out.mono ?_
            rintro e u' w9 ⟨rfl, rfl, hE9, r30, r20, hg9, hk9⟩
            refine ⟨.tuple #[.bool (decide (err = 0) && !txEq (E').b E.b ((E').x : Int) (E.x : Int) ((E').y : Int) (E.y : Int)), .int .i64 err], by simp [results, Tryz.results9, go_sem, r30, r20], _, err, E', rfl, hE9, hg9, rfl, ?_⟩
            rw [HACT3.out]
            exact ChRes.lift HR6.out.1 hsq HR6.out.2 hk9
        · rw [if_neg hlh] at hact
          have q1 : ((lo : Int) == (hi : Int)) = false := beq_eq_false_iff_ne.2 (by omega)
          have q2 : ¬ (lo : Int) = (hi : Int) := by omega
          have HACT3 := hid hact
          clear hact
          have kbq := HKQ.out
          have eq_ := HEQ.out
          have hBq := HBQ.out
          clear HKQ HEQ HBQ
          generalize wc = wq at *
          have CC := change_all (w := wq) (E := E) eq_ ⟨#[]⟩ (lo) (hi) n1 n2 hb (by decide) hk
          clear k0 k1 k2 k3 k4 k5 k6 c1 lgq lkq
          obtain ⟨k0, k1, k2, k3, k4, k5, k6⟩ := kbq.cells
          have HKQ := hid kbq
          have hsq := hBq.size
          have HBQ := hid hBq
          clear kbq hBq eq_
          go_wp2_with fail
          with_reducible refine CC.mono ?_
          rintro e w6 ⟨err, E', rfl, hE6, hR6, hg6⟩
          have kb6 := HKQ.out.grown hg6 lg (by omega)
          have hg60 : w.grownBy w6 (some g) := grown_below HBQ.out hg6
          have HR6 := hid (And.intro hR6 kb6)
          clear CC k0 k1 k2 k3 k4 k5 k6
          have CH := key_fin (w := w) (E' := E') kb6 hE6 hg60 rfl (by omega) lg err
          have HCH := hid CH
          have HKB := hid kb6
          obtain ⟨k0, k1, k2, k3, k4, k5, k6⟩ := kb6.cells
          clear CH kb6 hE6 hg6 hg60 hR6
          go_wp2
          refine leaves_cons (f := 28) (args := #[.pointer (some ⟨w.heap.size + 1 + 1 + 1, 0, none⟩), .pointer (some ⟨w.heap.size, 0, none⟩), .pointer (some ⟨w2.heap.size, 0, none⟩), .pointer (some ⟨w.heap.size + 1 + 1, 0, none⟩)]) (by simp) (by simp [go_sem]) ?_
          refine HCH.out.mono ?_
          rintro e u' w9 ⟨rfl, rfl, hE9, r30, r20, hg9, hk9⟩
          refine ⟨.tuple #[.bool (decide (err = 0) && !txEq (E').b E.b ((E').x : Int) (E.x : Int) ((E').y : Int) (E.y : Int)), .int .i64 err], by simp [results, Tryz.results9, go_sem, r30, r20], _, err, E', rfl, hE9, hg9, rfl, ?_⟩
          rw [HACT3.out]
          exact ChRes.lift HR6.out.1 hsq HR6.out.2 hk9
      | false =>
        obtain ⟨X3, hX3⟩ : ∃ X, (decide (s = ⟨#[97]⟩) && decide (md = 2)) = X := ⟨_, rfl⟩
        have HX3 := hid hX3
        clear hX3
        generalize wc = wq at *
        go_upto_region 28 with fail
        go_cut [141] from 142 to 149 (fun v wx => v = .bool X3 ∧ wx = wq)
        case first =>
          have hX3 := HX3.out
          by_cases n : s = ⟨#[97]⟩
          · subst n
            rw [decide_eq_true rfl, Bool.true_and] at hX3
            have q1 : ((md : Int) == 2) = X3 := by
              rw [← hX3]
              by_cases h : md = 2
              · rw [decide_eq_true h]; exact beq_iff_eq.2 (by omega)
              · rw [decide_eq_false h]; exact beq_eq_false_iff_ne.2 (by omega)
            have q2 : decide ((md : Int) = 2) = X3 := by
              rw [← hX3]
              by_cases h : md = 2
              · rw [decide_eq_true h]; exact decide_eq_true (by omega)
              · rw [decide_eq_false h]; exact decide_eq_false (by omega)
            go_wp2
            go_meet
            exact ⟨rfl, rfl⟩
          · have t := str_ne (l := [97]) n
            rw [decide_eq_false n, Bool.false_and] at hX3
            subst hX3
            go_wp2
            go_meet
            exact ⟨rfl, rfl⟩
        case rest =>
        obtain ⟨rfl, rfl⟩ := hcut
        cases X3 with
        | true =>
          have hact := HACT2.out
          rw [if_neg (by rw [HX1.out]; decide), if_neg (by rw [HX2.out]; decide), if_pos HX3.out] at hact
          have HACT3 := hid hact
          clear hact
          go_wp2
          refine region_ext_last 1 mixed (by kernel_rfl) ?_
          simp only [List.length_cons, List.length_nil, Nat.reduceAdd, Nat.reduceSub, List.take_succ_cons, List.take_zero, List.drop_succ_cons, List.drop_zero]
          (repeat (go_big_quiet_step (fail)))
          refine wpQuiet_nil ?_
          intro w4 hb4
          have kb4 := HKQ.out.on hb4
          have e4 := HEQ.out.on hb4
          have hB4 := HBQ.out.trans (hb4.mono HBQ.out.size)
          clear k0 k1 k2 k3 k4 k5 k6 c1 lgq lkq
          have lg4 := e4.lt
          have f2 := e4.free 2
          have f3 := e4.free 3
          have c2 := e4.cells.2.2.1
          have c3 := e4.cells.2.2.2.1
          have hE5 : EdS ((w4.setCell ⟨g, 2, none⟩ (.int .i64 (E.b.size : Int))).setCell ⟨g, 3, none⟩ (.int .i64 0)) g { E with x := E.b.size, y := 0 } := store_in (store_in e4)
          have hg5 : w4.grownBy ((w4.setCell ⟨g, 2, none⟩ (.int .i64 (E.b.size : Int))).setCell ⟨g, 3, none⟩ (.int .i64 0)) (some g) := grown_cell (grown_cell (World.grownBy.refl _ _))
          have kb5 := kb4.grown hg5 lg (by omega)
          have hg50 : w.grownBy ((w4.setCell ⟨g, 2, none⟩ (.int .i64 (E.b.size : Int))).setCell ⟨g, 3, none⟩ (.int .i64 0)) (some g) := grown_below hB4 hg5
          clear HKQ HEQ HBQ kb4 e4 hB4 hb4
          have CH := key_fin (w := w) (E' := { E with x := E.b.size, y := 0 }) kb5 hE5 hg50 rfl (by omega) lg 0
          have HCH := hid CH
          have HKB := hid kb5
          obtain ⟨k0, k1, k2, k3, k4, k5, k6⟩ := kb5.cells
          clear CH kb5 hE5 hg5 hg50
          go_wp2
          refine leaves_cons (f := 28) (args := #[.pointer (some ⟨w.heap.size + 1 + 1 + 1, 0, none⟩), .pointer (some ⟨w.heap.size, 0, none⟩), .pointer (some ⟨w2.heap.size, 0, none⟩), .pointer (some ⟨w.heap.size + 1 + 1, 0, none⟩)]) (by simp) (by simp [go_sem]) ?_
          refine HCH.out.mono ?_
          rintro e u' w9 ⟨rfl, rfl, hE9, r30, r20, hg9, hk9⟩
          refine ⟨.tuple #[.bool (decide (0 = 0) && !txEq ({ E with x := E.b.size, y := 0 }).b E.b (({ E with x := E.b.size, y := 0 }).x : Int) (E.x : Int) (({ E with x := E.b.size, y := 0 }).y : Int) (E.y : Int)), .int .i64 0], by simp [results, Tryz.results9, go_sem, r30, r20], _, 0, { E with x := E.b.size, y := 0 }, rfl, hE9, hg9, rfl, ?_⟩
          rw [HACT3.out]
          exact ⟨rfl, rfl⟩
        | false =>
          have hact := HACT2.out
          rw [if_neg (by rw [HX1.out]; decide), if_neg (by rw [HX2.out]; decide), if_neg (by rw [HX3.out]; decide)] at hact
          have CT := typed_any s md wc (by omega) (ctrlB md || altB md) _ rfl md_b.2.2.2.2.2
          obtain ⟨tx, htx⟩ : ∃ z, typedE s (ctrlB md || altB md) = z := ⟨_, rfl⟩
          have htz : tx.size ≤ 1000000 := by rw [← htx]; exact typedE_len s _ (by omega)
          rw [htx] at CT hact
          have HACT3 := hid hact
          clear hact htx
          go_wp2_with fail
          with_reducible refine CT.mono ?_
          rintro e wq ⟨rfl, hbq⟩
          have kbq := HKQ.out.on hbq
          have eq_ := HEQ.out.on hbq
          have hBq := HBQ.out.trans (hbq.mono HBQ.out.size)
          have lgq := eq_.lt
          have lkq := lt_of_block kbq.n0
          have hse : (tx.toList == []) = decide (tx.size = 0) := by
            rw [ByteArray.toList_eq, ← ba_len]
            cases tx.data.toList <;> simp
          clear CT HKQ HEQ HBQ hbq
          by_cases hz : tx.size = 0
          · have hact := HACT3.out
            rw [if_pos hz] at hact
            have HACT4 := hid hact
            rw [decide_eq_true hz] at hse
            have hg0 : w.grownBy wq (some g) := grown_below hBq (World.grownBy.refl _ _)
            have eqs : EdS wq g E := eq_
            clear hact HACT3 k0 k1 k2 k3 k4 k5 k6 c1
            have CH := key_fin (w := w) (E' := E) kbq eqs hg0 rfl (by omega) lg 0
            have HCH := hid CH
            have HKB := hid kbq
            obtain ⟨k0, k1, k2, k3, k4, k5, k6⟩ := kbq.cells
            clear CH kbq eqs hg0 eq_
            go_wp2
            refine leaves_cons (f := 28) (args := #[.pointer (some ⟨w.heap.size + 1 + 1 + 1, 0, none⟩), .pointer (some ⟨w.heap.size, 0, none⟩), .pointer (some ⟨w2.heap.size, 0, none⟩), .pointer (some ⟨w.heap.size + 1 + 1, 0, none⟩)]) (by simp) (by simp [go_sem]) ?_
            refine HCH.out.mono ?_
            rintro e u' w9 ⟨rfl, rfl, hE9, r30, r20, hg9, hk9⟩
            refine ⟨.tuple #[.bool (decide (0 = 0) && !txEq (E).b E.b ((E).x : Int) (E.x : Int) ((E).y : Int) (E.y : Int)), .int .i64 0], by simp [results, Tryz.results9, go_sem, r30, r20], _, 0, E, rfl, hE9, hg9, rfl, ?_⟩
            rw [HACT4.out]
            exact ⟨rfl, rfl⟩
          · have hact := HACT3.out
            rw [if_neg hz] at hact
            have HACT4 := hid hact
            rw [decide_eq_false hz] at hse
            clear hact HACT3
            have CC := change_all (w := wq) (E := E) eq_ tx (lo) (hi) n1 n2 hb htz hk
            clear k0 k1 k2 k3 k4 k5 k6 c1 lgq lkq
            obtain ⟨k0, k1, k2, k3, k4, k5, k6⟩ := kbq.cells
            have HKQ := hid kbq
            have hsq := hBq.size
            have HBQ := hid hBq
            clear kbq hBq eq_
            go_wp2_with fail
            with_reducible refine CC.mono ?_
            rintro e w6 ⟨err, E', rfl, hE6, hR6, hg6⟩
            have kb6 := HKQ.out.grown hg6 lg (by omega)
            have hg60 : w.grownBy w6 (some g) := grown_below HBQ.out hg6
            have HR6 := hid (And.intro hR6 kb6)
            clear CC k0 k1 k2 k3 k4 k5 k6
            have CH := key_fin (w := w) (E' := E') kb6 hE6 hg60 rfl (by omega) lg err
            have HCH := hid CH
            have HKB := hid kb6
            obtain ⟨k0, k1, k2, k3, k4, k5, k6⟩ := kb6.cells
            clear CH kb6 hE6 hg6 hg60 hR6
            go_wp2
            refine leaves_cons (f := 28) (args := #[.pointer (some ⟨w.heap.size + 1 + 1 + 1, 0, none⟩), .pointer (some ⟨w.heap.size, 0, none⟩), .pointer (some ⟨w2.heap.size, 0, none⟩), .pointer (some ⟨w.heap.size + 1 + 1, 0, none⟩)]) (by simp) (by simp [go_sem]) ?_
            refine HCH.out.mono ?_
            rintro e u' w9 ⟨rfl, rfl, hE9, r30, r20, hg9, hk9⟩
            refine ⟨.tuple #[.bool (decide (err = 0) && !txEq (E').b E.b ((E').x : Int) (E.x : Int) ((E').y : Int) (E.y : Int)), .int .i64 err], by simp [results, Tryz.results9, go_sem, r30, r20], _, err, E', rfl, hE9, hg9, rfl, ?_⟩
            rw [HACT4.out]
            exact ChRes.lift HR6.out.1 hsq HR6.out.2 hk9
end Go.Proofs.YtcfgpmmclijonaaGreatDoor
