/- Layer 25: one op on both editors: the law's does. Printed by gen_ep9.py. -/
import Derived.Test.YtcfgpmmclijonaaGreatDoorEpC
import Derived.Deep.RegionHeld3
namespace Go.Proofs.YtcfgpmmclijonaaGreatDoor
set_option linter.unusedVariables false
set_option linter.unusedSimpArgs false
set_option maxRecDepth 100000
open Go.RowKit Go.Shelf Go.Lib
set_option maxRecDepth 100000
set_option maxHeartbeats 16000000

theorem Nxt.before {w W w' : World} {e g : Nat} {L N : List (Nat × Stp)} {Bk On : Value} (hb : Below w.heap.size w W) (h : Nxt W w' e g L N Bk On) : Nxt w w' e g L N Bk On := by
  obtain ⟨E', L', N', Bk', On', h1, h2, h3⟩ := h
  have := hb.size
  exact ⟨E', L', N', Bk', On', h1, (Turn.of_below hb).trans h2, fun j hj => (h3 j hj).imp id (fun h => by omega)⟩
theorem Nxt.after {W w1 w' : World} {e g : Nat} {L N : List (Nat × Stp)} {Bk On : Value} (h : Nxt W w1 e g L N Bk On) (hb : Below w1.heap.size w1 w') : Nxt W w' e g L N Bk On := by
  obtain ⟨E', L', N', Bk', On', h1, h2, h3⟩ := h
  exact ⟨E', L', N', Bk', On', h1.on hb, h2.trans (Turn.of_below hb), h3⟩
theorem Nxt.stay {W w1 : World} {e g : Nat} {E : Ed} {L N : List (Nat × Stp)} {Bk On : Value} (h : Pr W e g E L N Bk On) (hb : Below W.heap.size W w1) : Nxt W w1 e g L N Bk On := ⟨E, L, N, Bk, On, h.on hb, Turn.of_below hb, fun j hj => .inl hj⟩
theorem Nxt.turn {W w1 : World} {e g : Nat} {L N : List (Nat × Stp)} {Bk On : Value} (h : Nxt W w1 e g L N Bk On) : Turn (Own e g L N Bk On) W w1 := by
  obtain ⟨E', L', N', Bk', On', h1, h2, h3⟩ := h
  exact h2
/-- The op's box. -/
def BxO (b : Nat) (o : Opr) (w : World) : Prop := w.heap[b]? = some (.cells #[.int .i64 o.d, .string o.s, .string o.nm, .int .u8 (o.md : Int), .int .i64 o.n, .bool o.keep] 34 (0, 0))
theorem BxO.cells {b : Nat} {o : Opr} {w : World} (h : BxO b o w) : w.cell? ⟨b, 0, none⟩ = some (.int .i64 o.d) ∧ w.cell? ⟨b, 1, none⟩ = some (.string o.s) ∧ w.cell? ⟨b, 2, none⟩ = some (.string o.nm) ∧ w.cell? ⟨b, 3, none⟩ = some (.int .u8 (o.md : Int)) ∧ w.cell? ⟨b, 4, none⟩ = some (.int .i64 o.n) ∧ w.cell? ⟨b, 5, none⟩ = some (.bool o.keep) :=
  ⟨by rw [blk_cell h]; rfl, by rw [blk_cell h]; rfl, by rw [blk_cell h]; rfl, by rw [blk_cell h]; rfl, by rw [blk_cell h]; rfl, by rw [blk_cell h]; rfl⟩
theorem BxO.turn {b : Nat} {o : Opr} {w w' : World} {F : Nat → Prop} (h : BxO b o w) (t : Turn F w w') (hF : ¬ F b) : BxO b o w' := (t.block b (lt_of_block h) hF).trans h
theorem does_any {w : World} {e g : Nat} {E : Ed} {L N : List (Nat × Stp)} {Bk On : Value} (h : Pr w e g E L N Bk On) (hT : ∀ w1, Turn (Own e g L N Bk On) w w1 → Tabs w1) (o : Opr) (hsn : o.nm.size ≤ 9223372036854775807) :
    Calls Tryz.prog 6 #[.pointer (some ⟨e, 0, none⟩), .pointer (some ⟨g, 0, none⟩), opV o] w fun r w' => r = .returned (.bool true) ∧ Nxt w w' e g L N Bk On := by
  unfold opV
  obtain ⟨W, hW⟩ : ∃ W, w.alloc (.cells #[.int .i64 o.d, .string o.s, .string o.nm, .int .u8 (o.md : Int), .int .i64 o.n, .bool o.keep] 34) = W := ⟨_, rfl⟩
  have hB : Below w.heap.size w W := by
    rw [← hW]
    exact (Below.refl _ _).alloc (Nat.le_refl _) _
  have hX : BxO w.heap.size o W := by
    rw [← hW]
    exact World.alloc_heap_new _ _
  have hF : ¬ Own e g L N Bk On w.heap.size := fun hf => Nat.lt_irrefl _ (h.own hf)
  have hP := h.on hB
  have hTW : ∀ w1, Turn (Own e g L N Bk On) W w1 → Tabs w1 := fun w1 t => hT w1 ((Turn.of_below hB).trans t)
  have HP := hid hP
  have HX := hid hX
  have HF := hid hF
  have HB := hid hB
  have HT := hid hTW
  have HW := hid hW
  have hle : e < W.heap.size := hP.pg.ed.lt
  have hlg : g < W.heap.size := hP.rd.at_.lt
  have hlb : w.heap.size < W.heap.size := lt_of_block hX
  clear h hT hB hX hF hP hTW hW
  go_enter Tryz.func6, Tryz.ntmps6
  go_upto_region 2 with fail
  rw [HW.out]
  by_cases hlong : o.d = 0 ∧ 100000 < o.s.size
  · obtain ⟨d0, hlong⟩ := hlong
    have q1 : (100000 : Int) < (o.s.size : Int) := by omega
    have q2 : decide ((100000 : Int) < (o.s.size : Int)) = true := decide_eq_true q1
    have HN := hid (Nxt.before HB.out (Nxt.stay HP.out (Below.refl _ _)))
    obtain ⟨k0, k1, k2, k3, k4, k5⟩ := HX.out.cells
    go_wp2
    refine bodyPost_ret (v := .bool true) (by simp [results, Tryz.results6, go_sem, *]) rfl ⟨rfl, HN.out⟩
  obtain ⟨k0, k1, k2, k3, k4, k5⟩ := HX.out.cells
  by_cases d0 : o.d = 0
  · have hs : o.s.size ≤ 100000 := by
      false_or_by_contra
      exact hlong ⟨d0, by omega⟩
    obtain ⟨P, C1, C2⟩ := lk_type HP.out o.s (by omega)
    have q1 : ¬ (100000 : Int) < (o.s.size : Int) := by omega
    have q2 : decide ((100000 : Int) < (o.s.size : Int)) = false := decide_eq_false q1
    clear hlong
    go_wp2
    go_region_held3 (fun wz => wz.cell? ⟨w.heap.size, 1, none⟩ = some (.string o.s)) (first | assumption | (simpa using k1)) (first
      | (go_at_call 7; with_reducible refine (C1 _ (Below.refl _ _).drew).mono ?_; rintro r w1 ⟨v, rfl, hp, t1⟩; have hk1 := (HX.out.turn t1 HF.out).cells.2.1)
      | (go_at_call 8; with_reducible refine (C2 _ _ hp).mono ?_; rintro r w2 ⟨rfl, hn⟩; have hk2 := (HX.out.turn hn.turn HF.out).cells.2.1))
    clear C1 C2 hk1 hk2 t1 hp
    have HN := hid (Nxt.before HB.out hn)
    obtain ⟨E2, L2, N2, Bk2, On2, p2, t2, o2⟩ := hn
    have hl2 := p2.ok.le
    have C3 := text_any p2.pg.ed
    unfold txV at C3
    have HP2 := hid p2
    clear p2 t2 o2 k0 k1 k2 k3 k4 k5
    go_wp2_with fail
    with_reducible refine C3.mono ?_
    rintro r w3 ⟨rfl, hb3⟩
    clear C3
    obtain ⟨W4, hW4⟩ : ∃ W4, w3.alloc (.cells #[.string E2.b, .int .i64 (E2.x : Int), .int .i64 (E2.y : Int)] 39) = W4 := ⟨_, rfl⟩
    have hB4 : Below w2.heap.size w2 W4 := by
      rw [← hW4]
      exact hb3.alloc hb3.size _
    have nT : W4.heap[w3.heap.size]? = some (.cells #[.string E2.b, .int .i64 (E2.x : Int), .int .i64 (E2.y : Int)] 39 (0, 0)) := by
      rw [← hW4]
      exact World.alloc_heap_new _ _
    have C4 := Chosen_any (HP2.out.on hB4).pg.ed hl2.1 hl2.2
    have HW4 := hid hW4
    have HB4 := hid hB4
    have NT := hid nT
    obtain ⟨lo, hlo⟩ : ∃ z, min E2.x E2.y = z := ⟨_, rfl⟩
    obtain ⟨hi, hhi⟩ : ∃ z, max E2.x E2.y = z := ⟨_, rfl⟩
    rw [hlo, hhi] at C4
    have v1 : (lo : Int) ≤ (hi : Int) := by omega
    have v2 : (hi : Int) ≤ (E2.b.size : Int) := by omega
    have HLO := hid hlo
    have HHI := hid hhi
    clear hW4 hB4 nT hb3 hlo hhi
    go_wp2_with fail
    rw [HW4.out]
    with_reducible refine C4.mono ?_
    rintro r w5 ⟨rfl, hb5⟩
    have hB5 := HB4.out.trans (hb5.mono HB4.out.size)
    have C5 := rChosen_any (HP2.out.on hB5).rd.at_
    rw [HLO.out, HHI.out] at C5
    have HB5 := hid hB5
    have NT5 := hid ((hb5.block _ (lt_of_block NT.out)).trans NT.out)
    clear C4 hb5 hB5 HB4 NT HW4 HLO HHI
    go_wp2_with fail
    with_reducible refine C5.mono ?_
    rintro r w6 ⟨rfl, hb6⟩
    have hB6 := HB5.out.trans (hb6.mono HB5.out.size)
    have C6 := Depth_any (HP2.out.on hB6).pg.ed
    rw [HP2.out.pg.k, HP2.out.pg.m] at C6
    have HB6 := hid hB6
    have NT6 := hid ((hb6.block _ (lt_of_block NT5.out)).trans NT5.out)
    clear C5 hb6 hB6 HB5 NT5
    go_wp2_with fail
    with_reducible refine C6.mono ?_
    rintro r w7 ⟨rfl, hb7⟩
    have hB7 := HB6.out.trans (hb7.mono HB6.out.size)
    have nT7 := (hb7.block _ (lt_of_block NT6.out)).trans NT6.out
    have p7 := HP2.out.on hB7
    have rd7 := p7.rd
    obtain ⟨c0, c1, c2, c3, c4⟩ := rd7.at_.cells
    obtain ⟨A1, z1, rfl⟩ := rd7.wb.shape
    obtain ⟨A2, z2, rfl⟩ := rd7.wo.shape
    rw [stps_len] at c3 c4
    have lg7 := rd7.at_.lt
    have lT7 := lt_of_block nT7
    have t0 : w7.cell? ⟨w3.heap.size, 0, none⟩ = some (.string E2.b) := by rw [blk_cell nT7]; rfl
    have t1 : w7.cell? ⟨w3.heap.size, 1, none⟩ = some (.int .i64 (E2.x : Int)) := by rw [blk_cell nT7]; rfl
    have t2 : w7.cell? ⟨w3.heap.size, 2, none⟩ = some (.int .i64 (E2.y : Int)) := by rw [blk_cell nT7]; rfl
    have hself := txEq_same E2.b (E2.x : Int) (E2.y : Int)
    have HB7 := hid hB7
    clear C6 hb7 hB7 HB6 NT6 nT7 p7 rd7
    go_wp2
    refine region_ext mixed (by kernel_rfl) ?_
    (repeat (go_big_quiet_step (fail)))
    refine wpQuiet_nil ?_
    intro w8 hb8
    go_wp2
    refine bodyPost_ret (v := .bool true) (by simp [results, Tryz.results6, go_sem, *]) rfl ⟨rfl, HN.out.after (HB7.out.trans (hb8.mono HB7.out.size))⟩
  clear hlong
  by_cases d1 : o.d = 1
  · obtain ⟨P, C1, C2⟩ := lk_key HP.out HT.out o.nm o.md hsn
    go_wp2_with fail
    with_reducible refine (C1 _ (Below.refl _ _)).mono ?_
    rintro r w1 ⟨did, err, rfl, hp, t1⟩
    have hx1 := HX.out.turn t1 HF.out
    have C3 := C2 _ _ _ hp _ (Below.refl _ _)
    clear k0 k1 k2 k3 k4 k5
    obtain ⟨k0, k1, k2, k3, k4, k5⟩ := hx1.cells
    clear C1 C2 hp t1 hx1
    go_wp2_with fail
    with_reducible refine C3.mono ?_
    rintro r w2 ⟨rfl, hn⟩
    clear C3
    have HN := hid (Nxt.before HB.out hn)
    obtain ⟨E2, L2, N2, Bk2, On2, p2, t2, o2⟩ := hn
    have hl2 := p2.ok.le
    have C3 := text_any p2.pg.ed
    unfold txV at C3
    have HP2 := hid p2
    clear p2 t2 o2 k0 k1 k2 k3 k4 k5
    go_wp2_with fail
    with_reducible refine C3.mono ?_
    rintro r w3 ⟨rfl, hb3⟩
    clear C3
    obtain ⟨W4, hW4⟩ : ∃ W4, w3.alloc (.cells #[.string E2.b, .int .i64 (E2.x : Int), .int .i64 (E2.y : Int)] 39) = W4 := ⟨_, rfl⟩
    have hB4 : Below w2.heap.size w2 W4 := by
      rw [← hW4]
      exact hb3.alloc hb3.size _
    have nT : W4.heap[w3.heap.size]? = some (.cells #[.string E2.b, .int .i64 (E2.x : Int), .int .i64 (E2.y : Int)] 39 (0, 0)) := by
      rw [← hW4]
      exact World.alloc_heap_new _ _
    have C4 := Chosen_any (HP2.out.on hB4).pg.ed hl2.1 hl2.2
    have HW4 := hid hW4
    have HB4 := hid hB4
    have NT := hid nT
    obtain ⟨lo, hlo⟩ : ∃ z, min E2.x E2.y = z := ⟨_, rfl⟩
    obtain ⟨hi, hhi⟩ : ∃ z, max E2.x E2.y = z := ⟨_, rfl⟩
    rw [hlo, hhi] at C4
    have v1 : (lo : Int) ≤ (hi : Int) := by omega
    have v2 : (hi : Int) ≤ (E2.b.size : Int) := by omega
    have HLO := hid hlo
    have HHI := hid hhi
    clear hW4 hB4 nT hb3 hlo hhi
    go_wp2_with fail
    rw [HW4.out]
    with_reducible refine C4.mono ?_
    rintro r w5 ⟨rfl, hb5⟩
    have hB5 := HB4.out.trans (hb5.mono HB4.out.size)
    have C5 := rChosen_any (HP2.out.on hB5).rd.at_
    rw [HLO.out, HHI.out] at C5
    have HB5 := hid hB5
    have NT5 := hid ((hb5.block _ (lt_of_block NT.out)).trans NT.out)
    clear C4 hb5 hB5 HB4 NT HW4 HLO HHI
    go_wp2_with fail
    with_reducible refine C5.mono ?_
    rintro r w6 ⟨rfl, hb6⟩
    have hB6 := HB5.out.trans (hb6.mono HB5.out.size)
    have C6 := Depth_any (HP2.out.on hB6).pg.ed
    rw [HP2.out.pg.k, HP2.out.pg.m] at C6
    have HB6 := hid hB6
    have NT6 := hid ((hb6.block _ (lt_of_block NT5.out)).trans NT5.out)
    clear C5 hb6 hB6 HB5 NT5
    go_wp2_with fail
    with_reducible refine C6.mono ?_
    rintro r w7 ⟨rfl, hb7⟩
    have hB7 := HB6.out.trans (hb7.mono HB6.out.size)
    have nT7 := (hb7.block _ (lt_of_block NT6.out)).trans NT6.out
    have p7 := HP2.out.on hB7
    have rd7 := p7.rd
    obtain ⟨c0, c1, c2, c3, c4⟩ := rd7.at_.cells
    obtain ⟨A1, z1, rfl⟩ := rd7.wb.shape
    obtain ⟨A2, z2, rfl⟩ := rd7.wo.shape
    rw [stps_len] at c3 c4
    have lg7 := rd7.at_.lt
    have lT7 := lt_of_block nT7
    have t0 : w7.cell? ⟨w3.heap.size, 0, none⟩ = some (.string E2.b) := by rw [blk_cell nT7]; rfl
    have t1 : w7.cell? ⟨w3.heap.size, 1, none⟩ = some (.int .i64 (E2.x : Int)) := by rw [blk_cell nT7]; rfl
    have t2 : w7.cell? ⟨w3.heap.size, 2, none⟩ = some (.int .i64 (E2.y : Int)) := by rw [blk_cell nT7]; rfl
    have hself := txEq_same E2.b (E2.x : Int) (E2.y : Int)
    have HB7 := hid hB7
    clear C6 hb7 hB7 HB6 NT6 nT7 p7 rd7
    go_wp2
    refine region_ext mixed (by kernel_rfl) ?_
    (repeat (go_big_quiet_step (fail)))
    refine wpQuiet_nil ?_
    intro w8 hb8
    go_wp2
    refine bodyPost_ret (v := .bool true) (by simp [results, Tryz.results6, go_sem, *]) rfl ⟨rfl, HN.out.after (HB7.out.trans (hb8.mono HB7.out.size))⟩
  by_cases d2 : o.d = 2
  · obtain ⟨P, C1, C2⟩ := lk_move HP.out o.n o.keep
    go_wp2
    go_region_held3 (fun wz => wz.cell? ⟨w.heap.size, 4, none⟩ = some (.int .i64 o.n) ∧ wz.cell? ⟨w.heap.size, 5, none⟩ = some (.bool o.keep)) (first | exact ⟨by assumption, by assumption⟩ | exact ⟨by simpa using k4, by simpa using k5⟩) (first
      | (go_at_call 11; with_reducible refine (C1 _ (Below.refl _ _).drew).mono ?_; rintro r w1 ⟨v, rfl, hp, t1⟩; obtain ⟨_, _, _, _, hk1, hk1'⟩ := (HX.out.turn t1 HF.out).cells)
      | (go_at_call 12; with_reducible refine (C2 _ _ hp).mono ?_; rintro r w2 ⟨rfl, hn⟩; obtain ⟨_, _, _, _, hk2, hk2'⟩ := (HX.out.turn hn.turn HF.out).cells))
    clear C1 C2 hk1 hk2 hk1' hk2' t1 hp
    have HN := hid (Nxt.before HB.out hn)
    obtain ⟨E2, L2, N2, Bk2, On2, p2, t2, o2⟩ := hn
    have hl2 := p2.ok.le
    have C3 := text_any p2.pg.ed
    unfold txV at C3
    have HP2 := hid p2
    clear p2 t2 o2 k0 k1 k2 k3 k4 k5
    go_wp2_with fail
    with_reducible refine C3.mono ?_
    rintro r w3 ⟨rfl, hb3⟩
    clear C3
    obtain ⟨W4, hW4⟩ : ∃ W4, w3.alloc (.cells #[.string E2.b, .int .i64 (E2.x : Int), .int .i64 (E2.y : Int)] 39) = W4 := ⟨_, rfl⟩
    have hB4 : Below w2.heap.size w2 W4 := by
      rw [← hW4]
      exact hb3.alloc hb3.size _
    have nT : W4.heap[w3.heap.size]? = some (.cells #[.string E2.b, .int .i64 (E2.x : Int), .int .i64 (E2.y : Int)] 39 (0, 0)) := by
      rw [← hW4]
      exact World.alloc_heap_new _ _
    have C4 := Chosen_any (HP2.out.on hB4).pg.ed hl2.1 hl2.2
    have HW4 := hid hW4
    have HB4 := hid hB4
    have NT := hid nT
    obtain ⟨lo, hlo⟩ : ∃ z, min E2.x E2.y = z := ⟨_, rfl⟩
    obtain ⟨hi, hhi⟩ : ∃ z, max E2.x E2.y = z := ⟨_, rfl⟩
    rw [hlo, hhi] at C4
    have v1 : (lo : Int) ≤ (hi : Int) := by omega
    have v2 : (hi : Int) ≤ (E2.b.size : Int) := by omega
    have HLO := hid hlo
    have HHI := hid hhi
    clear hW4 hB4 nT hb3 hlo hhi
    go_wp2_with fail
    rw [HW4.out]
    with_reducible refine C4.mono ?_
    rintro r w5 ⟨rfl, hb5⟩
    have hB5 := HB4.out.trans (hb5.mono HB4.out.size)
    have C5 := rChosen_any (HP2.out.on hB5).rd.at_
    rw [HLO.out, HHI.out] at C5
    have HB5 := hid hB5
    have NT5 := hid ((hb5.block _ (lt_of_block NT.out)).trans NT.out)
    clear C4 hb5 hB5 HB4 NT HW4 HLO HHI
    go_wp2_with fail
    with_reducible refine C5.mono ?_
    rintro r w6 ⟨rfl, hb6⟩
    have hB6 := HB5.out.trans (hb6.mono HB5.out.size)
    have C6 := Depth_any (HP2.out.on hB6).pg.ed
    rw [HP2.out.pg.k, HP2.out.pg.m] at C6
    have HB6 := hid hB6
    have NT6 := hid ((hb6.block _ (lt_of_block NT5.out)).trans NT5.out)
    clear C5 hb6 hB6 HB5 NT5
    go_wp2_with fail
    with_reducible refine C6.mono ?_
    rintro r w7 ⟨rfl, hb7⟩
    have hB7 := HB6.out.trans (hb7.mono HB6.out.size)
    have nT7 := (hb7.block _ (lt_of_block NT6.out)).trans NT6.out
    have p7 := HP2.out.on hB7
    have rd7 := p7.rd
    obtain ⟨c0, c1, c2, c3, c4⟩ := rd7.at_.cells
    obtain ⟨A1, z1, rfl⟩ := rd7.wb.shape
    obtain ⟨A2, z2, rfl⟩ := rd7.wo.shape
    rw [stps_len] at c3 c4
    have lg7 := rd7.at_.lt
    have lT7 := lt_of_block nT7
    have t0 : w7.cell? ⟨w3.heap.size, 0, none⟩ = some (.string E2.b) := by rw [blk_cell nT7]; rfl
    have t1 : w7.cell? ⟨w3.heap.size, 1, none⟩ = some (.int .i64 (E2.x : Int)) := by rw [blk_cell nT7]; rfl
    have t2 : w7.cell? ⟨w3.heap.size, 2, none⟩ = some (.int .i64 (E2.y : Int)) := by rw [blk_cell nT7]; rfl
    have hself := txEq_same E2.b (E2.x : Int) (E2.y : Int)
    have HB7 := hid hB7
    clear C6 hb7 hB7 HB6 NT6 nT7 p7 rd7
    go_wp2
    refine region_ext mixed (by kernel_rfl) ?_
    (repeat (go_big_quiet_step (fail)))
    refine wpQuiet_nil ?_
    intro w8 hb8
    go_wp2
    refine bodyPost_ret (v := .bool true) (by simp [results, Tryz.results6, go_sem, *]) rfl ⟨rfl, HN.out.after (HB7.out.trans (hb8.mono HB7.out.size))⟩
  by_cases d3 : o.d = 3
  · obtain ⟨P, C1, C2⟩ := lk_undo HP.out
    go_wp2_with fail
    with_reducible refine (C1 _ (Below.refl _ _)).mono ?_
    rintro r w1 ⟨did, rfl, hp, t1⟩
    have C3 := C2 _ _ hp
    clear C1 C2 hp t1
    go_wp2_with fail
    with_reducible refine C3.mono ?_
    rintro r w2 ⟨rfl, hn⟩
    clear C3
    have HN := hid (Nxt.before HB.out hn)
    obtain ⟨E2, L2, N2, Bk2, On2, p2, t2, o2⟩ := hn
    have hl2 := p2.ok.le
    have C3 := text_any p2.pg.ed
    unfold txV at C3
    have HP2 := hid p2
    clear p2 t2 o2 k0 k1 k2 k3 k4 k5
    go_wp2_with fail
    with_reducible refine C3.mono ?_
    rintro r w3 ⟨rfl, hb3⟩
    clear C3
    obtain ⟨W4, hW4⟩ : ∃ W4, w3.alloc (.cells #[.string E2.b, .int .i64 (E2.x : Int), .int .i64 (E2.y : Int)] 39) = W4 := ⟨_, rfl⟩
    have hB4 : Below w2.heap.size w2 W4 := by
      rw [← hW4]
      exact hb3.alloc hb3.size _
    have nT : W4.heap[w3.heap.size]? = some (.cells #[.string E2.b, .int .i64 (E2.x : Int), .int .i64 (E2.y : Int)] 39 (0, 0)) := by
      rw [← hW4]
      exact World.alloc_heap_new _ _
    have C4 := Chosen_any (HP2.out.on hB4).pg.ed hl2.1 hl2.2
    have HW4 := hid hW4
    have HB4 := hid hB4
    have NT := hid nT
    obtain ⟨lo, hlo⟩ : ∃ z, min E2.x E2.y = z := ⟨_, rfl⟩
    obtain ⟨hi, hhi⟩ : ∃ z, max E2.x E2.y = z := ⟨_, rfl⟩
    rw [hlo, hhi] at C4
    have v1 : (lo : Int) ≤ (hi : Int) := by omega
    have v2 : (hi : Int) ≤ (E2.b.size : Int) := by omega
    have HLO := hid hlo
    have HHI := hid hhi
    clear hW4 hB4 nT hb3 hlo hhi
    go_wp2_with fail
    rw [HW4.out]
    with_reducible refine C4.mono ?_
    rintro r w5 ⟨rfl, hb5⟩
    have hB5 := HB4.out.trans (hb5.mono HB4.out.size)
    have C5 := rChosen_any (HP2.out.on hB5).rd.at_
    rw [HLO.out, HHI.out] at C5
    have HB5 := hid hB5
    have NT5 := hid ((hb5.block _ (lt_of_block NT.out)).trans NT.out)
    clear C4 hb5 hB5 HB4 NT HW4 HLO HHI
    go_wp2_with fail
    with_reducible refine C5.mono ?_
    rintro r w6 ⟨rfl, hb6⟩
    have hB6 := HB5.out.trans (hb6.mono HB5.out.size)
    have C6 := Depth_any (HP2.out.on hB6).pg.ed
    rw [HP2.out.pg.k, HP2.out.pg.m] at C6
    have HB6 := hid hB6
    have NT6 := hid ((hb6.block _ (lt_of_block NT5.out)).trans NT5.out)
    clear C5 hb6 hB6 HB5 NT5
    go_wp2_with fail
    with_reducible refine C6.mono ?_
    rintro r w7 ⟨rfl, hb7⟩
    have hB7 := HB6.out.trans (hb7.mono HB6.out.size)
    have nT7 := (hb7.block _ (lt_of_block NT6.out)).trans NT6.out
    have p7 := HP2.out.on hB7
    have rd7 := p7.rd
    obtain ⟨c0, c1, c2, c3, c4⟩ := rd7.at_.cells
    obtain ⟨A1, z1, rfl⟩ := rd7.wb.shape
    obtain ⟨A2, z2, rfl⟩ := rd7.wo.shape
    rw [stps_len] at c3 c4
    have lg7 := rd7.at_.lt
    have lT7 := lt_of_block nT7
    have t0 : w7.cell? ⟨w3.heap.size, 0, none⟩ = some (.string E2.b) := by rw [blk_cell nT7]; rfl
    have t1 : w7.cell? ⟨w3.heap.size, 1, none⟩ = some (.int .i64 (E2.x : Int)) := by rw [blk_cell nT7]; rfl
    have t2 : w7.cell? ⟨w3.heap.size, 2, none⟩ = some (.int .i64 (E2.y : Int)) := by rw [blk_cell nT7]; rfl
    have hself := txEq_same E2.b (E2.x : Int) (E2.y : Int)
    have HB7 := hid hB7
    clear C6 hb7 hB7 HB6 NT6 nT7 p7 rd7
    go_wp2
    refine region_ext mixed (by kernel_rfl) ?_
    (repeat (go_big_quiet_step (fail)))
    refine wpQuiet_nil ?_
    intro w8 hb8
    go_wp2
    refine bodyPost_ret (v := .bool true) (by simp [results, Tryz.results6, go_sem, *]) rfl ⟨rfl, HN.out.after (HB7.out.trans (hb8.mono HB7.out.size))⟩
  by_cases d4 : o.d = 4
  · obtain ⟨P, C1, C2⟩ := lk_redo HP.out
    go_wp2_with fail
    with_reducible refine (C1 _ (Below.refl _ _)).mono ?_
    rintro r w1 ⟨did, rfl, hp, t1⟩
    have C3 := C2 _ _ hp
    clear C1 C2 hp t1
    go_wp2_with fail
    with_reducible refine C3.mono ?_
    rintro r w2 ⟨rfl, hn⟩
    clear C3
    have HN := hid (Nxt.before HB.out hn)
    obtain ⟨E2, L2, N2, Bk2, On2, p2, t2, o2⟩ := hn
    have hl2 := p2.ok.le
    have C3 := text_any p2.pg.ed
    unfold txV at C3
    have HP2 := hid p2
    clear p2 t2 o2 k0 k1 k2 k3 k4 k5
    go_wp2_with fail
    with_reducible refine C3.mono ?_
    rintro r w3 ⟨rfl, hb3⟩
    clear C3
    obtain ⟨W4, hW4⟩ : ∃ W4, w3.alloc (.cells #[.string E2.b, .int .i64 (E2.x : Int), .int .i64 (E2.y : Int)] 39) = W4 := ⟨_, rfl⟩
    have hB4 : Below w2.heap.size w2 W4 := by
      rw [← hW4]
      exact hb3.alloc hb3.size _
    have nT : W4.heap[w3.heap.size]? = some (.cells #[.string E2.b, .int .i64 (E2.x : Int), .int .i64 (E2.y : Int)] 39 (0, 0)) := by
      rw [← hW4]
      exact World.alloc_heap_new _ _
    have C4 := Chosen_any (HP2.out.on hB4).pg.ed hl2.1 hl2.2
    have HW4 := hid hW4
    have HB4 := hid hB4
    have NT := hid nT
    obtain ⟨lo, hlo⟩ : ∃ z, min E2.x E2.y = z := ⟨_, rfl⟩
    obtain ⟨hi, hhi⟩ : ∃ z, max E2.x E2.y = z := ⟨_, rfl⟩
    rw [hlo, hhi] at C4
    have v1 : (lo : Int) ≤ (hi : Int) := by omega
    have v2 : (hi : Int) ≤ (E2.b.size : Int) := by omega
    have HLO := hid hlo
    have HHI := hid hhi
    clear hW4 hB4 nT hb3 hlo hhi
    go_wp2_with fail
    rw [HW4.out]
    with_reducible refine C4.mono ?_
    rintro r w5 ⟨rfl, hb5⟩
    have hB5 := HB4.out.trans (hb5.mono HB4.out.size)
    have C5 := rChosen_any (HP2.out.on hB5).rd.at_
    rw [HLO.out, HHI.out] at C5
    have HB5 := hid hB5
    have NT5 := hid ((hb5.block _ (lt_of_block NT.out)).trans NT.out)
    clear C4 hb5 hB5 HB4 NT HW4 HLO HHI
    go_wp2_with fail
    with_reducible refine C5.mono ?_
    rintro r w6 ⟨rfl, hb6⟩
    have hB6 := HB5.out.trans (hb6.mono HB5.out.size)
    have C6 := Depth_any (HP2.out.on hB6).pg.ed
    rw [HP2.out.pg.k, HP2.out.pg.m] at C6
    have HB6 := hid hB6
    have NT6 := hid ((hb6.block _ (lt_of_block NT5.out)).trans NT5.out)
    clear C5 hb6 hB6 HB5 NT5
    go_wp2_with fail
    with_reducible refine C6.mono ?_
    rintro r w7 ⟨rfl, hb7⟩
    have hB7 := HB6.out.trans (hb7.mono HB6.out.size)
    have nT7 := (hb7.block _ (lt_of_block NT6.out)).trans NT6.out
    have p7 := HP2.out.on hB7
    have rd7 := p7.rd
    obtain ⟨c0, c1, c2, c3, c4⟩ := rd7.at_.cells
    obtain ⟨A1, z1, rfl⟩ := rd7.wb.shape
    obtain ⟨A2, z2, rfl⟩ := rd7.wo.shape
    rw [stps_len] at c3 c4
    have lg7 := rd7.at_.lt
    have lT7 := lt_of_block nT7
    have t0 : w7.cell? ⟨w3.heap.size, 0, none⟩ = some (.string E2.b) := by rw [blk_cell nT7]; rfl
    have t1 : w7.cell? ⟨w3.heap.size, 1, none⟩ = some (.int .i64 (E2.x : Int)) := by rw [blk_cell nT7]; rfl
    have t2 : w7.cell? ⟨w3.heap.size, 2, none⟩ = some (.int .i64 (E2.y : Int)) := by rw [blk_cell nT7]; rfl
    have hself := txEq_same E2.b (E2.x : Int) (E2.y : Int)
    have HB7 := hid hB7
    clear C6 hb7 hB7 HB6 NT6 nT7 p7 rd7
    go_wp2
    refine region_ext mixed (by kernel_rfl) ?_
    (repeat (go_big_quiet_step (fail)))
    refine wpQuiet_nil ?_
    intro w8 hb8
    go_wp2
    refine bodyPost_ret (v := .bool true) (by simp [results, Tryz.results6, go_sem, *]) rfl ⟨rfl, HN.out.after (HB7.out.trans (hb8.mono HB7.out.size))⟩
  obtain ⟨sS, aS, vS, C1, C2⟩ := lk_show HP.out o.n
  have e0 : (o.d == 0) = false := beq_eq_false_iff_ne.2 d0
  have e1 : (o.d == 1) = false := beq_eq_false_iff_ne.2 d1
  have e2 : (o.d == 2) = false := beq_eq_false_iff_ne.2 d2
  have e3 : (o.d == 3) = false := beq_eq_false_iff_ne.2 d3
  have e4 : (o.d == 4) = false := beq_eq_false_iff_ne.2 d4
  go_wp2_with fail
  with_reducible refine (C1 _ (Below.refl _ _)).mono ?_
  rintro r w1 ⟨rfl, hb1⟩
  have hx1 := HX.out.turn (Turn.of_below hb1) HF.out
  have C3 := C2 w1 hb1
  clear k0 k1 k2 k3 k4 k5
  obtain ⟨k0, k1, k2, k3, k4, k5⟩ := hx1.cells
  clear C1 C2 hx1
  go_wp2_with fail
  with_reducible refine C3.mono ?_
  rintro r w2 ⟨rfl, hb2⟩
  have hn := Nxt.stay HP.out (hb1.trans (hb2.mono hb1.size))
  clear C3 hb1 hb2 e0 e1 e2 e3 e4
  have HN := hid (Nxt.before HB.out hn)
  obtain ⟨E2, L2, N2, Bk2, On2, p2, t2, o2⟩ := hn
  have hl2 := p2.ok.le
  have C3 := text_any p2.pg.ed
  unfold txV at C3
  have HP2 := hid p2
  clear p2 t2 o2 k0 k1 k2 k3 k4 k5
  go_wp2_with fail
  with_reducible refine C3.mono ?_
  rintro r w3 ⟨rfl, hb3⟩
  clear C3
  obtain ⟨W4, hW4⟩ : ∃ W4, w3.alloc (.cells #[.string E2.b, .int .i64 (E2.x : Int), .int .i64 (E2.y : Int)] 39) = W4 := ⟨_, rfl⟩
  have hB4 : Below w2.heap.size w2 W4 := by
    rw [← hW4]
    exact hb3.alloc hb3.size _
  have nT : W4.heap[w3.heap.size]? = some (.cells #[.string E2.b, .int .i64 (E2.x : Int), .int .i64 (E2.y : Int)] 39 (0, 0)) := by
    rw [← hW4]
    exact World.alloc_heap_new _ _
  have C4 := Chosen_any (HP2.out.on hB4).pg.ed hl2.1 hl2.2
  have HW4 := hid hW4
  have HB4 := hid hB4
  have NT := hid nT
  obtain ⟨lo, hlo⟩ : ∃ z, min E2.x E2.y = z := ⟨_, rfl⟩
  obtain ⟨hi, hhi⟩ : ∃ z, max E2.x E2.y = z := ⟨_, rfl⟩
  rw [hlo, hhi] at C4
  have v1 : (lo : Int) ≤ (hi : Int) := by omega
  have v2 : (hi : Int) ≤ (E2.b.size : Int) := by omega
  have HLO := hid hlo
  have HHI := hid hhi
  clear hW4 hB4 nT hb3 hlo hhi
  go_wp2_with fail
  rw [HW4.out]
  with_reducible refine C4.mono ?_
  rintro r w5 ⟨rfl, hb5⟩
  have hB5 := HB4.out.trans (hb5.mono HB4.out.size)
  have C5 := rChosen_any (HP2.out.on hB5).rd.at_
  rw [HLO.out, HHI.out] at C5
  have HB5 := hid hB5
  have NT5 := hid ((hb5.block _ (lt_of_block NT.out)).trans NT.out)
  clear C4 hb5 hB5 HB4 NT HW4 HLO HHI
  go_wp2_with fail
  with_reducible refine C5.mono ?_
  rintro r w6 ⟨rfl, hb6⟩
  have hB6 := HB5.out.trans (hb6.mono HB5.out.size)
  have C6 := Depth_any (HP2.out.on hB6).pg.ed
  rw [HP2.out.pg.k, HP2.out.pg.m] at C6
  have HB6 := hid hB6
  have NT6 := hid ((hb6.block _ (lt_of_block NT5.out)).trans NT5.out)
  clear C5 hb6 hB6 HB5 NT5
  go_wp2_with fail
  with_reducible refine C6.mono ?_
  rintro r w7 ⟨rfl, hb7⟩
  have hB7 := HB6.out.trans (hb7.mono HB6.out.size)
  have nT7 := (hb7.block _ (lt_of_block NT6.out)).trans NT6.out
  have p7 := HP2.out.on hB7
  have rd7 := p7.rd
  obtain ⟨c0, c1, c2, c3, c4⟩ := rd7.at_.cells
  obtain ⟨A1, z1, rfl⟩ := rd7.wb.shape
  obtain ⟨A2, z2, rfl⟩ := rd7.wo.shape
  rw [stps_len] at c3 c4
  have lg7 := rd7.at_.lt
  have lT7 := lt_of_block nT7
  have t0 : w7.cell? ⟨w3.heap.size, 0, none⟩ = some (.string E2.b) := by rw [blk_cell nT7]; rfl
  have t1 : w7.cell? ⟨w3.heap.size, 1, none⟩ = some (.int .i64 (E2.x : Int)) := by rw [blk_cell nT7]; rfl
  have t2 : w7.cell? ⟨w3.heap.size, 2, none⟩ = some (.int .i64 (E2.y : Int)) := by rw [blk_cell nT7]; rfl
  have hself := txEq_same E2.b (E2.x : Int) (E2.y : Int)
  have HB7 := hid hB7
  clear C6 hb7 hB7 HB6 NT6 nT7 p7 rd7
  go_wp2
  refine region_ext mixed (by kernel_rfl) ?_
  (repeat (go_big_quiet_step (fail)))
  refine wpQuiet_nil ?_
  intro w8 hb8
  go_wp2
  refine bodyPost_ret (v := .bool true) (by simp [results, Tryz.results6, go_sem, *]) rfl ⟨rfl, HN.out.after (HB7.out.trans (hb8.mono HB7.out.size))⟩
end Go.Proofs.YtcfgpmmclijonaaGreatDoor

/- Layer 25: two pairs of editors, op by op. -/
namespace Go.Proofs.YtcfgpmmclijonaaGreatDoor
set_option linter.unusedVariables false
set_option linter.unusedSimpArgs false
set_option maxRecDepth 100000
open Go.RowKit Go.Shelf Go.Lib
set_option maxRecDepth 100000
set_option maxHeartbeats 16000000

/-- Two pairs apart. -/
def Two (w0 w : World) (e g h k : Nat) : Prop := ∃ E L N Bk On E' L' N' Bk' On', Pr w e g E L N Bk On ∧ Pr w h k E' L' N' Bk' On' ∧ (∀ j, Own e g L N Bk On j → ¬ Own h k L' N' Bk' On' j) ∧ (∀ j, Own e g L N Bk On j ∨ Own h k L' N' Bk' On' j → w0.heap.size ≤ j) ∧ Below w0.heap.size w0 w
section
variable {w0 w w1 : World} {e g h k : Nat}
theorem Two.swap (t : Two w0 w e g h k) : Two w0 w h k e g := by
  obtain ⟨E, L, N, Bk, On, E', L', N', Bk', On', h1, h2, h3, h4, h5⟩ := t
  exact ⟨E', L', N', Bk', On', E, L, N, Bk, On, h2, h1, fun j hj hj' => h3 j hj' hj, fun j hj => h4 j hj.symm, h5⟩
theorem Two.bl (t : Two w0 w e g h k) : Below w0.heap.size w0 w := by
  obtain ⟨E, L, N, Bk, On, E', L', N', Bk', On', h1, h2, h3, h4, h5⟩ := t
  exact h5
theorem two_fst (hT : Tabs w0) (t : Two w0 w e g h k) (o : Opr) (hsn : o.nm.size ≤ 9223372036854775807) :
    Calls Tryz.prog 6 #[.pointer (some ⟨e, 0, none⟩), .pointer (some ⟨g, 0, none⟩), opV o] w fun r w' => r = .returned (.bool true) ∧ Two w0 w' e g h k := by
  obtain ⟨E, L, N, Bk, On, E', L', N', Bk', On', h1, h2, h3, h4, h5⟩ := t
  have hC : ∀ j, j < w0.heap.size → ¬ Own e g L N Bk On j := fun j hj ho => by
    have := h4 j (.inl ho)
    omega
  refine (does_any h1 (fun w1 t => tabs_on hT (below_turn h5 (Nat.le_refl _) t hC)) o hsn).mono ?_
  rintro r w' ⟨rfl, E2, L2, N2, Bk2, On2, p2, t2, o2⟩
  have hsz := h5.size
  refine ⟨rfl, E2, L2, N2, Bk2, On2, E', L', N', Bk', On', p2, h2.turn t2 (fun j hj ho => h3 j ho hj), fun j hj ho => ?_, fun j hj => ?_, below_turn h5 (Nat.le_refl _) t2 hC⟩
  · rcases o2 j hj with h6 | h6
    · exact h3 j h6 ho
    · have := h2.own ho
      omega
  · rcases hj with hj | hj
    · rcases o2 j hj with h6 | h6
      · exact h4 j (.inl h6)
      · omega
    · exact h4 j (.inr hj)
theorem two_snd (hT : Tabs w0) (t : Two w0 w e g h k) (o : Opr) (hsn : o.nm.size ≤ 9223372036854775807) :
    Calls Tryz.prog 6 #[.pointer (some ⟨h, 0, none⟩), .pointer (some ⟨k, 0, none⟩), opV o] w fun r w' => r = .returned (.bool true) ∧ Two w0 w' e g h k :=
  (two_fst hT t.swap o hsn).mono fun _ _ ⟨h1, h2⟩ => ⟨h1, h2.swap⟩
end
theorem Pr.make {w : World} {e g : Nat} {b : ByteArray} (hb : b.size ≤ 65536) (he : EdAt w e b b.size b.size (.pointer none) (.pointer none) 0 0) (hg : RdAt w g b b.size b.size (.slice none 0 0) (.slice none 0 0)) (hne : e ≠ g) :
    Pr w e g ⟨b, b.size, b.size, none, none, 0, 0⟩ [] [] (.slice none 0 0) (.slice none 0 0) := by
  have hs : Seam b.data.toList b.size := by
    have := Seam.last b.data.toList
    rwa [ba_len] at this
  refine ⟨⟨he, rfl, rfl, trivial, trivial, rfl, rfl, by simp⟩, ⟨hg, Win.nil _ _, Win.nil _ _, fun k hk => by cases hk⟩, ⟨hb, hs, hs⟩, ?_, fun c hc => by rcases hc with h | h <;> cases h⟩
  rintro j (rfl | ⟨c, hc, _⟩ | ⟨c, hc, _⟩) (h | h | h)
  · exact hne h
  · cases h
  · cases h
  all_goals cases hc
theorem own_new {e g j : Nat} (h : Own e g [] [] (.slice none 0 0) (.slice none 0 0) j) : j = e ∨ j = g := by
  rcases h with (h | ⟨c, hc, _⟩ | ⟨c, hc, _⟩) | h | h | h
  · exact .inl h
  · cases hc
  · cases hc
  · exact .inr h
  · cases h
  · cases h
theorem walkEditPlays (w : World) (hT : Tabs w) (a b : ByteArray) (L : List Opr) (A : Option Addr) (c : Nat) (hA : At w.heap.size w A (oprs L)) (hL : ∀ o ∈ L, o.nm.size ≤ 9223372036854775807) (M : List Opr) (B : Option Addr) (d : Nat) (hB : At w.heap.size w B (oprs M)) (hM : ∀ o ∈ M, o.nm.size ≤ 9223372036854775807) :
    Calls Tryz.prog 3 #[.string a, .string b, .slice A L.length c, .slice B M.length d] w fun e w' => e = .returned (.bool true) ∧ Below w.heap.size w w' := by
  have HT := hid hT
  have HA := hid hA
  have HB := hid hB
  have HL := hid hL
  have HM := hid hM
  clear hT hA hB hL hM
  by_cases x1 : 5000 < a.size ∧ a.size ≤ 65536
  · obtain ⟨x1, x2⟩ := x1
    have g1 : (5000 : Int) < (a.size : Int) := by omega
    have d1 : decide ((5000 : Int) < (a.size : Int)) = true := decide_eq_true g1
    have m1 : 5000 < a.size := by omega
    have g2 : (a.size : Int) ≤ (65536 : Int) := by omega
    have d2 : decide ((a.size : Int) ≤ (65536 : Int)) = true := decide_eq_true g2
    have m2 : a.size ≤ 65536 := by omega
    go_enter Tryz.func3, Tryz.ntmps3
    go_wp2
    refine bodyPost_ret (v := .bool true) (by simp [results, Tryz.results3, go_sem, *]) rfl ⟨rfl, Below.refl _ _⟩
  by_cases x2 : 70000 < a.size
  · skip
    have g3 : (5000 : Int) < (a.size : Int) := by omega
    have d3 : decide ((5000 : Int) < (a.size : Int)) = true := decide_eq_true g3
    have m3 : 5000 < a.size := by omega
    have g4 : ¬ (a.size : Int) ≤ (65536 : Int) := by omega
    have d4 : decide ((a.size : Int) ≤ (65536 : Int)) = false := decide_eq_false g4
    have m4 : ¬ a.size ≤ 65536 := by omega
    have g5 : (70000 : Int) < (a.size : Int) := by omega
    have d5 : decide ((70000 : Int) < (a.size : Int)) = true := decide_eq_true g5
    have m5 : 70000 < a.size := by omega
    go_enter Tryz.func3, Tryz.ntmps3
    go_wp2
    refine bodyPost_ret (v := .bool true) (by simp [results, Tryz.results3, go_sem, *]) rfl ⟨rfl, Below.refl _ _⟩
  by_cases x3 : 65536 < a.size
  · skip
    have g6 : (5000 : Int) < (a.size : Int) := by omega
    have d6 : decide ((5000 : Int) < (a.size : Int)) = true := decide_eq_true g6
    have m6 : 5000 < a.size := by omega
    have g7 : ¬ (a.size : Int) ≤ (65536 : Int) := by omega
    have d7 : decide ((a.size : Int) ≤ (65536 : Int)) = false := decide_eq_false g7
    have m7 : ¬ a.size ≤ 65536 := by omega
    have g8 : ¬ (70000 : Int) < (a.size : Int) := by omega
    have d8 : decide ((70000 : Int) < (a.size : Int)) = false := decide_eq_false g8
    have m8 : ¬ 70000 < a.size := by omega
    by_cases x4 : 5000 < b.size
    · skip
      have g9 : (5000 : Int) < (b.size : Int) := by omega
      have d9 : decide ((5000 : Int) < (b.size : Int)) = true := decide_eq_true g9
      have m9 : 5000 < b.size := by omega
      go_enter Tryz.func3, Tryz.ntmps3
      go_wp2
      refine bodyPost_ret (v := .bool true) (by simp [results, Tryz.results3, go_sem, *]) rfl ⟨rfl, Below.refl _ _⟩
    have g10 : ¬ (5000 : Int) < (b.size : Int) := by omega
    have d10 : decide ((5000 : Int) < (b.size : Int)) = false := decide_eq_false g10
    have m10 : ¬ 5000 < b.size := by omega
    by_cases x5 : 400 < L.length
    · skip
      have g11 : (400 : Int) < (L.length : Int) := by omega
      have d11 : decide ((400 : Int) < (L.length : Int)) = true := decide_eq_true g11
      have m11 : 400 < L.length := by omega
      go_enter Tryz.func3, Tryz.ntmps3
      go_wp2
      refine bodyPost_ret (v := .bool true) (by simp [results, Tryz.results3, go_sem, *]) rfl ⟨rfl, Below.refl _ _⟩
    have g12 : ¬ (400 : Int) < (L.length : Int) := by omega
    have d12 : decide ((400 : Int) < (L.length : Int)) = false := decide_eq_false g12
    have m12 : ¬ 400 < L.length := by omega
    by_cases x6 : 400 < M.length
    · skip
      have g13 : (400 : Int) < (M.length : Int) := by omega
      have d13 : decide ((400 : Int) < (M.length : Int)) = true := decide_eq_true g13
      have m13 : 400 < M.length := by omega
      go_enter Tryz.func3, Tryz.ntmps3
      go_wp2
      refine bodyPost_ret (v := .bool true) (by simp [results, Tryz.results3, go_sem, *]) rfl ⟨rfl, Below.refl _ _⟩
    have g14 : ¬ (400 : Int) < (M.length : Int) := by omega
    have d14 : decide ((400 : Int) < (M.length : Int)) = false := decide_eq_false g14
    have m14 : ¬ 400 < M.length := by omega
    have C1 := New_none a w x3
    go_enter Tryz.func3, Tryz.ntmps3
    go_wp2_with fail
    with_reducible refine C1.mono ?_
    rintro r w1 ⟨rfl, hb1⟩
    have C2 := rNew_none a w1 x3
    clear C1
    go_wp2_with fail
    with_reducible refine C2.mono ?_
    rintro r w2 ⟨rfl, hb2⟩
    have hB2 := hb1.trans (hb2.mono hb1.size)
    have C3 := New_any b w2 (by omega)
    clear C2
    go_wp2_with fail
    with_reducible refine C3.mono ?_
    rintro r w3 ⟨h, hh, rfl, _, hb3⟩
    clear C3
    go_wp2
    refine bodyPost_ret (v := .bool true) (by simp [results, Tryz.results3, go_sem, *]) rfl ⟨rfl, hB2.trans (hb3.mono hB2.size)⟩
  have g15 : ¬ (5000 : Int) < (a.size : Int) := by omega
  have d15 : decide ((5000 : Int) < (a.size : Int)) = false := decide_eq_false g15
  have m15 : ¬ 5000 < a.size := by omega
  have g16 : ¬ (70000 : Int) < (a.size : Int) := by omega
  have d16 : decide ((70000 : Int) < (a.size : Int)) = false := decide_eq_false g16
  have m16 : ¬ 70000 < a.size := by omega
  by_cases x4 : 5000 < b.size
  · skip
    have g17 : (5000 : Int) < (b.size : Int) := by omega
    have d17 : decide ((5000 : Int) < (b.size : Int)) = true := decide_eq_true g17
    have m17 : 5000 < b.size := by omega
    go_enter Tryz.func3, Tryz.ntmps3
    go_wp2
    refine bodyPost_ret (v := .bool true) (by simp [results, Tryz.results3, go_sem, *]) rfl ⟨rfl, Below.refl _ _⟩
  have g18 : ¬ (5000 : Int) < (b.size : Int) := by omega
  have d18 : decide ((5000 : Int) < (b.size : Int)) = false := decide_eq_false g18
  have m18 : ¬ 5000 < b.size := by omega
  by_cases x5 : 400 < L.length
  · skip
    have g19 : (400 : Int) < (L.length : Int) := by omega
    have d19 : decide ((400 : Int) < (L.length : Int)) = true := decide_eq_true g19
    have m19 : 400 < L.length := by omega
    go_enter Tryz.func3, Tryz.ntmps3
    go_wp2
    refine bodyPost_ret (v := .bool true) (by simp [results, Tryz.results3, go_sem, *]) rfl ⟨rfl, Below.refl _ _⟩
  have g20 : ¬ (400 : Int) < (L.length : Int) := by omega
  have d20 : decide ((400 : Int) < (L.length : Int)) = false := decide_eq_false g20
  have m20 : ¬ 400 < L.length := by omega
  by_cases x6 : 400 < M.length
  · skip
    have g21 : (400 : Int) < (M.length : Int) := by omega
    have d21 : decide ((400 : Int) < (M.length : Int)) = true := decide_eq_true g21
    have m21 : 400 < M.length := by omega
    go_enter Tryz.func3, Tryz.ntmps3
    go_wp2
    refine bodyPost_ret (v := .bool true) (by simp [results, Tryz.results3, go_sem, *]) rfl ⟨rfl, Below.refl _ _⟩
  have g22 : ¬ (400 : Int) < (M.length : Int) := by omega
  have d22 : decide ((400 : Int) < (M.length : Int)) = false := decide_eq_false g22
  have m22 : ¬ 400 < M.length := by omega
  have C1 := New_any a w (by omega)
  go_enter Tryz.func3, Tryz.ntmps3
  go_wp2_with fail
  with_reducible refine C1.mono ?_
  rintro r w1 ⟨e, he, rfl, e1, hb1⟩
  have C2 := rNew_any a w1 (by omega)
  clear C1
  go_wp2_with fail
  with_reducible refine C2.mono ?_
  rintro r w2 ⟨g, hg, rfl, e2, hb2⟩
  have hB2 := hb1.trans (hb2.mono hb1.size)
  have C3 := New_any b w2 (by omega)
  have E1 := hid e1
  have E2 := hid e2
  have HB1 := hid hb1
  have HB2 := hid hb2
  have HBB2 := hid hB2
  clear C2 e1 e2 hb1 hb2 hB2
  go_wp2_with fail
  with_reducible refine C3.mono ?_
  rintro r w3 ⟨h, hh, rfl, e3, hb3⟩
  have C4 := rNew_any b w3 (by omega)
  have E3 := hid e3
  have HB3 := hid hb3
  clear C3 e3 hb3
  go_wp2_with fail
  with_reducible refine C4.mono ?_
  rintro r w4 ⟨k, hk, rfl, e4, hb4⟩
  have hB3 := HBB2.out.trans (HB3.out.mono HBB2.out.size)
  have hB4 := hB3.trans (hb4.mono hB3.size)
  have l1 := E1.out.lt
  have l2 := E2.out.lt
  have l3 := E3.out.lt
  have l4 := e4.lt
  have z1 := HB1.out.size
  have z2 := HB2.out.size
  have z3 := HB3.out.size
  have hb24 : Below w2.heap.size w2 w4 := HB3.out.trans (hb4.mono HB3.out.size)
  have hb14 : Below w1.heap.size w1 w4 := HB2.out.trans (hb24.mono HB2.out.size)
  have hTwo : Two w w4 e g h k := ⟨_, _, _, _, _, _, _, _, _, _, Pr.make (by omega) (E1.out.on hb14) (E2.out.on hb24) (by omega), Pr.make (by omega) (E3.out.on hb4) e4 (by omega), fun j hj hj' => by
      rcases own_new hj with rfl | rfl <;> rcases own_new hj' with rfl | rfl <;> omega, fun j hj => by
      rcases hj with hj | hj <;> rcases own_new hj with rfl | rfl <;> omega, hB4⟩
  have HTW := hid hTwo
  clear C4 e4 hb4 hB3 hB4 hb24 hb14 hTwo E1 E2 E3 HB1 HB2 HB3 HBB2 l1 l2 l3 l4 z1 z2 z3 he hg hh hk
  go_wp2
  go_loopg [17] (max L.length M.length) (fun gh v17 wr => ∃ i : Nat, v17 = .int .i64 (i : Int) ∧ i ≤ 400 ∧ max L.length M.length - i ≤ gh ∧ Hid (Two w wr e g h k))
  case atStart => exact ⟨0, rfl, by omega, by omega, HTW⟩
  case round =>
    obtain ⟨i, rfl, hi, hgh, H1⟩ := hrel
    by_cases c1 : i < L.length
    · by_cases c2 : i < M.length
      · skip
        obtain ⟨ga, oa, rfl, hga, o0, o1, o2, o3, o4, o5⟩ := (HA.out.below H1.out.bl).opr c1
        have hon := HL.out _ (List.getElem_mem c1)
        have hsr := H1.out.bl.size
        have y0 : ga < wr.heap.size := by omega
        obtain ⟨op, hop⟩ : ∃ op, L[i]'c1 = op := ⟨_, rfl⟩
        rw [hop] at o0 o1 o2 o3 o4 o5 hon
        have p1 : (i : Int) < (L.length : Int) := by omega
        have C5 := two_fst HT.out H1.out op hon
        unfold opV at C5
        clear hop hga
        go_wp2_with fail
        with_reducible refine C5.mono ?_
        rintro r wr2 ⟨rfl, h2⟩
        have H1 := hid h2
        clear C5 h2 o0 o1 o2 o3 o4 o5 y0 hsr hon
        generalize wr2 = wr at *
        obtain ⟨gb, ob, rfl, hgb, o0, o1, o2, o3, o4, o5⟩ := (HB.out.below H1.out.bl).opr c2
        have hon := HM.out _ (List.getElem_mem c2)
        have hsr := H1.out.bl.size
        have y0 : gb < wr.heap.size := by omega
        obtain ⟨op2, hop⟩ : ∃ op, M[i]'c2 = op := ⟨_, rfl⟩
        rw [hop] at o0 o1 o2 o3 o4 o5 hon
        have p2 : (i : Int) < (M.length : Int) := by omega
        have C6 := two_snd HT.out H1.out op2 hon
        unfold opV at C6
        clear hop hgb
        go_wp2_with fail
        with_reducible refine C6.mono ?_
        rintro r wr3 ⟨rfl, h3⟩
        have H2 := hid h3
        clear C6 h3 o0 o1 o2 o3 o4 o5 y0 hsr hon
        go_wp2
        go_roundg (max L.length M.length - (i + 1))
        case measure => omega
        case rel => exact ⟨i + 1, by go_num, by omega, by omega, H2⟩
      · skip
        obtain ⟨ga, oa, rfl, hga, o0, o1, o2, o3, o4, o5⟩ := (HA.out.below H1.out.bl).opr c1
        have hon := HL.out _ (List.getElem_mem c1)
        have hsr := H1.out.bl.size
        have y0 : ga < wr.heap.size := by omega
        obtain ⟨op, hop⟩ : ∃ op, L[i]'c1 = op := ⟨_, rfl⟩
        rw [hop] at o0 o1 o2 o3 o4 o5 hon
        have p1 : (i : Int) < (L.length : Int) := by omega
        have C5 := two_fst HT.out H1.out op hon
        unfold opV at C5
        clear hop hga
        go_wp2_with fail
        with_reducible refine C5.mono ?_
        rintro r wr2 ⟨rfl, h2⟩
        have H1 := hid h2
        clear C5 h2 o0 o1 o2 o3 o4 o5 y0 hsr hon
        generalize wr2 = wr at *
        have p2 : ¬ (i : Int) < (M.length : Int) := by omega
        have H2 := H1
        go_wp2
        go_roundg (max L.length M.length - (i + 1))
        case measure => omega
        case rel => exact ⟨i + 1, by go_num, by omega, by omega, H2⟩
    · by_cases c2 : i < M.length
      · skip
        have p1 : ¬ (i : Int) < (L.length : Int) := by omega
        obtain ⟨gb, ob, rfl, hgb, o0, o1, o2, o3, o4, o5⟩ := (HB.out.below H1.out.bl).opr c2
        have hon := HM.out _ (List.getElem_mem c2)
        have hsr := H1.out.bl.size
        have y0 : gb < wr.heap.size := by omega
        obtain ⟨op2, hop⟩ : ∃ op, M[i]'c2 = op := ⟨_, rfl⟩
        rw [hop] at o0 o1 o2 o3 o4 o5 hon
        have p2 : (i : Int) < (M.length : Int) := by omega
        have C6 := two_snd HT.out H1.out op2 hon
        unfold opV at C6
        clear hop hgb
        go_wp2_with fail
        with_reducible refine C6.mono ?_
        rintro r wr3 ⟨rfl, h3⟩
        have H2 := hid h3
        clear C6 h3 o0 o1 o2 o3 o4 o5 y0 hsr hon
        go_wp2
        go_roundg (max L.length M.length - (i + 1))
        case measure => omega
        case rel => exact ⟨i + 1, by go_num, by omega, by omega, H2⟩
      · skip
        have p1 : ¬ (i : Int) < (L.length : Int) := by omega
        have p2 : ¬ (i : Int) < (M.length : Int) := by omega
        have H2 := H1
        have C7 := two_fst HT.out H1.out ⟨5, ⟨#[]⟩, ⟨#[]⟩, 0, 20, false⟩ (by decide)
        unfold opV at C7
        rw [show ((0 : Nat) : Int) = 0 from rfl] at C7
        go_wp2_with fail
        with_reducible refine C7.mono ?_
        rintro r w8 ⟨rfl, h8⟩
        have C8 := two_snd HT.out h8 ⟨5, ⟨#[]⟩, ⟨#[]⟩, 0, 20, false⟩ (by decide)
        unfold opV at C8
        rw [show ((0 : Nat) : Int) = 0 from rfl] at C8
        clear C7
        go_wp2_with fail
        with_reducible refine C8.mono ?_
        rintro r w9 ⟨rfl, h9⟩
        have H9 := hid h9.bl
        clear C8 h8 h9
        go_wp2
        refine bodyPost_ret (v := .bool true) (by simp [results, Tryz.results3, go_sem, *]) rfl ⟨rfl, H9.out⟩
end Go.Proofs.YtcfgpmmclijonaaGreatDoor
