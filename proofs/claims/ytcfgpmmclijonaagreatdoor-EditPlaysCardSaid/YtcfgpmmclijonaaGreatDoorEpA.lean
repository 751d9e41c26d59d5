/- Layer 25: the past as a chain of blocks; a change's deferred step where the past is full. -/
import Derived.Test.YtcfgpmmclijonaaGreatDoorEdKy
import Derived.Test.YtcfgpmmclijonaaGreatDoorEdBd
import Derived.Deep.LoopGhost
import Derived.Test.YtcfgpmmclijonaaGreatDoorRfMem
namespace Go.Proofs.YtcfgpmmclijonaaGreatDoor
set_option linter.unusedVariables false
set_option linter.unusedSimpArgs false
set_option maxRecDepth 100000
open Go.RowKit Go.Shelf Go.Lib
set_option maxRecDepth 100000
set_option maxHeartbeats 8000000

/-- Where a chain of steps begins. -/
def nx : List (Nat × Stp) → Option Addr
  | [] => none
  | c :: _ => some ⟨c.1, 0, none⟩
/-- Is it a block of the chain? -/
def InC (L : List (Nat × Stp)) (j : Nat) : Prop := ∃ c, c ∈ L ∧ c.1 = j
def Chn (w : World) : List (Nat × Stp) → Prop
  | [] => True
  | c :: L => StAt w c.1 c.2.u.b c.2.u.x c.2.u.y c.2.v.b c.2.v.x c.2.v.y (.pointer (nx L)) ∧ Chn w L
theorem Chn.same {w w' : World} : ∀ {L : List (Nat × Stp)}, Chn w L → (∀ c ∈ L, w'.heap[c.1]? = w.heap[c.1]?) → Chn w' L
  | [], _, _ => trivial
  | c :: L, ⟨h1, h2⟩, hs => ⟨by unfold StAt at h1 ⊢; rw [hs c (List.mem_cons_self ..)]; exact h1, Chn.same h2 fun d hd => hs d (List.mem_cons_of_mem _ hd)⟩
theorem Chn.lt {w : World} : ∀ {L : List (Nat × Stp)}, Chn w L → ∀ c ∈ L, c.1 < w.heap.size
  | c :: L, ⟨h1, h2⟩, d, hd => by
    rcases List.mem_cons.1 hd with rfl | hd
    · exact lt_of_block h1
    · exact Chn.lt h2 d hd
theorem Chn.on {w w' : World} {L : List (Nat × Stp)} (h : Chn w L) (hb : Below w.heap.size w w') : Chn w' L := h.same fun c hc => hb.block _ (h.lt c hc)
theorem Chn.turn {w w' : World} {L : List (Nat × Stp)} {F : Nat → Prop} (h : Chn w L) (t : Turn F w w') (hF : ∀ c ∈ L, ¬ F c.1) : Chn w' L := h.same fun c hc => t.block _ (h.lt c hc) (hF c hc)
theorem Chn.drop {w : World} : ∀ (i : Nat) {L : List (Nat × Stp)}, Chn w L → Chn w (L.drop i)
  | 0, _, h => h
  | i + 1, [], _ => trivial
  | i + 1, c :: L, h => Chn.drop i h.2
theorem Chn.take {w : World} : ∀ (i : Nat) {L : List (Nat × Stp)}, Chn w L → ∀ c, L[i]? = some c → StAt w c.1 c.2.u.b c.2.u.x c.2.u.y c.2.v.b c.2.v.x c.2.v.y (.pointer (nx (L.drop (i + 1))))
  | 0, c :: L, h, d, hd => by cases hd; exact h.1
  | i + 1, c :: L, h, d, hd => Chn.take i h.2 d hd
theorem nx_drop : ∀ (i : Nat) {L : List (Nat × Stp)} {c : Nat × Stp}, L[i]? = some c → nx (L.drop i) = some ⟨c.1, 0, none⟩
  | 0, c :: L, d, hd => by cases hd; rfl
  | i + 1, c :: L, d, hd => nx_drop i hd
theorem chn_len {w : World} : ∀ {L M : List (Nat × Stp)}, Chn w L → Chn w M → nx L = nx M → L.length = M.length
  | [], [], _, _, _ => rfl
  | [], d :: M, _, _, h => by cases h
  | c :: L, [], _, _, h => by cases h
  | c :: L, d :: M, h1, h2, h => by
    have e : c.1 = d.1 := by
      simp only [nx, Option.some.injEq, Addr.mk.injEq, and_true] at h
      exact h
    have q1 := h1.1
    have q2 := h2.1
    unfold StAt at q1 q2
    rw [e, q2] at q1
    simp only [stC, Option.some.injEq, Obj.cells.injEq, Array.mk.injEq, List.cons.injEq, Value.pointer.injEq, and_true] at q1
    rw [List.length_cons, List.length_cons, chn_len h1.2 h2.2 q1.2.2.2.2.2.2.symm]
theorem chn_ne {w : World} {L : List (Nat × Stp)} (h : Chn w L) {i j : Nat} {c d : Nat × Stp} (hc : L[i]? = some c) (hd : L[j]? = some d) (hij : i < j) : c.1 ≠ d.1 := by
  intro e
  have h1 := chn_len (h.drop i) (h.drop j) (by rw [nx_drop i hc, nx_drop j hd, e])
  have h2 : j < L.length := by
    false_or_by_contra
    rw [List.getElem?_eq_none (by omega)] at hd
    cases hd
  rw [List.length_drop, List.length_drop] at h1
  omega
theorem nx_take : ∀ (n : Nat) (L : List (Nat × Stp)), nx (L.take (n + 1)) = nx L
  | _, [] => rfl
  | _, _ :: _ => rfl
theorem Chn.cut {w w' : World} : ∀ (n : Nat) {L : List (Nat × Stp)}, Chn w L → n < L.length → (∀ i, i < n → ∀ c, L[i]? = some c → w'.heap[c.1]? = w.heap[c.1]?) →
    (∀ c, L[n]? = some c → StAt w' c.1 c.2.u.b c.2.u.x c.2.u.y c.2.v.b c.2.v.x c.2.v.y (.pointer none)) → Chn w' (L.take (n + 1))
  | _, [], _, hn, _, _ => absurd hn (by simp)
  | 0, c :: L, h, _, _, hl => ⟨hl c rfl, trivial⟩
  | n + 1, c :: L, h, hn, hs, hl => by
    refine ⟨?_, Chn.cut n h.2 (by simpa using hn) (fun i hi d hd => hs (i + 1) (by omega) d hd) fun d hd => hl d hd⟩
    have h1 := h.1
    rw [show List.take ((n + 1)) L = L.take (n + 1) from rfl, nx_take]
    unfold StAt at h1 ⊢
    rw [hs 0 (by omega) c rfl]
    exact h1
section
variable {w : World} {g t bE bO : Nat} {b b0 b1 : ByteArray} {x y x0 y0 x1 y1 : Nat} {q : Value} {m : Nat} {L : List (Nat × Stp)}
theorem chg_full (u : FrameMode) (hE : EdAt w g b x y (.pointer (nx L)) q 256 m) (hS : StAt w t b0 x0 y0 b1 x1 y1 (.pointer (nx L))) (hL : Chn w L) (hl : L.length = 256) (htL : ∀ c ∈ L, c.1 ≠ t) (hgt : g ≠ t) (hXE : w.heap[bE]? = some (.cells #[.pointer (some ⟨g, 0, none⟩)] 23 (0, 0))) (cO : w.cell? ⟨bO, 0, none⟩ = some (.pointer (some ⟨t, 0, none⟩)))
    (nE : bE ≠ g ∧ bE ≠ t) (nO : bO ≠ g ∧ bO ≠ t) :
    CallsD Tryz.prog 49 #[.pointer (some ⟨bE, 0, none⟩), .pointer (some ⟨bO, 0, none⟩)] u w fun e u' w' => u' = u ∧ (e = .returned (.tuple #[]) ∧ EdAt w' g b x y (.pointer (some ⟨t, 0, none⟩)) (.pointer none) 256 0 ∧
      Chn w' ((t, ⟨⟨b0, x0, y0⟩, ⟨b, x, y⟩⟩) :: L.take 255) ∧ Turn (fun j => j = g ∨ j = t ∨ InC L j) w w') := by
  have cE := blk_cell hXE 0
  simp only [List.getElem?_toArray, List.getElem?_cons_zero] at cE
  have HE := hid hE
  have HS := hid hS
  have HL := hid hL
  have HXE := hid hXE
  have hgL : ∀ c ∈ L, g ≠ c.1 := by
    intro c hc e
    obtain ⟨i, hi⟩ := List.mem_iff_getElem?.1 hc
    exact ed_st_ne hE (hL.take i c hi) e
  have HGL := hid hgL
  have HTL := hid htL
  obtain ⟨c0, c1, c2, c3, c4, c5, c6, c7⟩ := hE.cells
  obtain ⟨s0, s1, s2, s3, s4, s5, s6⟩ := hS.cells
  have lg := hE.lt
  have lt := lt_of_block hS
  have lE : bE < w.heap.size := World.block_lt_of_cell? _ _ cE
  have lO : bO < w.heap.size := World.block_lt_of_cell? _ _ cO
  have CE := hid cE
  have CO := hid cO
  have hnE : ∀ c ∈ L, bE ≠ c.1 := by
    intro c hc e
    obtain ⟨i, hi⟩ := List.mem_iff_getElem?.1 hc
    have h1 := (hL.take i c hi).cells.1
    rw [← e, cE] at h1
    cases h1
  have HNE := hid hnE
  clear hE hS hL hgL htL hnE hXE
  go_enter_d Tryz.func49, Tryz.ntmps49
  go_wp2
  refine region_ext_last 1 mixed (by kernel_rfl) ?_
  simp only [List.length_cons, List.length_nil, Nat.reduceAdd, Nat.reduceSub, List.take_succ_cons, List.take_zero, List.drop_succ_cons, List.drop_zero]
  (repeat (go_big_quiet_step (fail)))
  refine wpQuiet_nil ?_
  intro w4 hb4
  clear c0 c1 c2 c3 c4 c5 c6 c7 s0 s1 s2 s3 s4 s5 s6 cE cO
  have hE := HE.out.on hb4
  have hS := HS.out.on hb4
  obtain ⟨c0, c1, c2, c3, c4, c5, c6, c7⟩ := hE.cells
  obtain ⟨s0, s1, s2, s3, s4, s5, s6⟩ := hS.cells
  have f := hE.free
  have fs := fun i => blk_frozen hS i
  have cE : w4.cell? ⟨bE, 0, none⟩ = some (.pointer (some ⟨g, 0, none⟩)) := by rw [hb4.cell lE]; exact CE.out
  have cO : w4.cell? ⟨bO, 0, none⟩ = some (.pointer (some ⟨t, 0, none⟩)) := by rw [hb4.cell lO]; exact CO.out
  have H4 := hid hE
  have S4 := hid hS
  have L4 := hid (HL.out.on hb4)
  have HB4 := hid hb4
  have E4 := hid ((hb4.block _ lE).trans HXE.out)
  obtain ⟨n1, n2⟩ := nE
  obtain ⟨n3, n4⟩ := nO
  have n5 := Ne.symm n1
  have n6 := Ne.symm n2
  have n7 := Ne.symm n3
  have n8 := Ne.symm n4
  have n9 := Ne.symm hgt
  clear hE hS hb4
  go_wp2
  go_loopg [2, 36] 255 (fun gh v2 v36 wr => ∃ i : Nat, v36 = .int .i64 (i : Int) ∧ i ≤ 255 ∧ 255 - i ≤ gh ∧ v2 = .pointer (nx (((t, ⟨⟨b0, x0, y0⟩, ⟨b, x, y⟩⟩) :: L).drop i)) ∧ EdAt wr g b x y (.pointer (some ⟨t, 0, none⟩)) (.pointer none) 257 0 ∧ Hid (Chn wr ((t, ⟨⟨b0, x0, y0⟩, ⟨b, x, y⟩⟩) :: L)) ∧
    Hid (wr.heap[bE]? = some (.cells #[.pointer (some ⟨g, 0, none⟩)] 23 (0, 0))) ∧ Hid (Turn (fun j => j = g ∨ j = t ∨ InC L j) w wr))
  case atStart =>
    refine ⟨0, rfl, by omega, by omega, rfl, ?_, hid ⟨?_, ?_⟩, hid ?_, hid ?_⟩
    · exact store_in (store_in (store_in (store_in (store_off (store_off (store_off H4.out hgt) hgt) hgt))))
    · exact store_off (store_off (store_off (store_off (store_in (store_in (store_in S4.out))) n9) n9) n9) n9
    · refine L4.out.same fun c hc => ?_
      have q1 := HTL.out c hc
      have q2 := Ne.symm (HGL.out c hc)
      exact store_off (store_off (store_off (store_off (store_off (store_off (store_off rfl q1) q1) q1) q2) q2) q2) q2
    · exact store_off (store_off (store_off (store_off (store_off (store_off (store_off E4.out n2) n2) n2) n1) n1) n1) n1
    · exact (((((((Turn.of_below HB4.out).trans (Turn.set (p := ⟨t, 3, none⟩) (Or.inr (Or.inl rfl)) _)).trans (Turn.set (p := ⟨t, 4, none⟩) (Or.inr (Or.inl rfl)) _)).trans (Turn.set (p := ⟨t, 5, none⟩) (Or.inr (Or.inl rfl)) _)).trans (Turn.set (p := ⟨g, 4, none⟩) (Or.inl rfl) _)).trans (Turn.set (p := ⟨g, 5, none⟩) (Or.inl rfl) _)).trans (Turn.set (p := ⟨g, 7, none⟩) (Or.inl rfl) _)).trans (Turn.set (p := ⟨g, 6, none⟩) (Or.inl rfl) _)
  case round =>
    obtain ⟨i, rfl, hi, hgh, rfl, hEr, HLr, HXr, HTr⟩ := hrel
    obtain ⟨c, hc⟩ : ∃ c, (((t, ⟨⟨b0, x0, y0⟩, ⟨b, x, y⟩⟩) :: L) : List (Nat × Stp))[i]? = some c := ⟨_, List.getElem?_eq_getElem (by rw [List.length_cons]; omega)⟩
    have hSc := HLr.out.take i c hc
    rw [nx_drop i hc]
    obtain ⟨s0', s1', s2', s3', s4', s5', s6'⟩ := hSc.cells
    have lc := lt_of_block hSc
    have lgr := hEr.lt
    have lEr := lt_of_block HXr.out
    have cEr : wr.cell? ⟨bE, 0, none⟩ = some (.pointer (some ⟨g, 0, none⟩)) := by rw [blk_cell HXr.out 0]; rfl
    by_cases hlt : i < 255
    · have q1 : (i : Int) < 255 := by omega
      have HEr := hid hEr
      clear hSc hEr s0' s1' s2' s3' s4' s5' cEr
      go_wp2
      go_roundg (255 - (i + 1))
      case measure => omega
      case rel => exact ⟨i + 1, by go_num, by omega, by omega, rfl, HEr.out, HLr, HXr, HTr⟩
    · have hi5 : i = 255 := by omega
      subst hi5
      have q1 : ¬ ((255 : Nat) : Int) < 255 := by decide
      have fc := blk_frozen hSc 6
      have fg := hEr.free 6
      have c6' := hEr.cells.2.2.2.2.2.2.1
      have hcg : c.1 ≠ g := by
        rw [List.getElem?_cons_succ] at hc
        exact Ne.symm (HGL.out c (List.mem_of_getElem? hc))
      have hcE : bE ≠ c.1 := by
        rw [List.getElem?_cons_succ] at hc
        exact HNE.out c (List.mem_of_getElem? hc)
      have hgc := Ne.symm hcg
      have hEc := Ne.symm hcE
      have HC := hid hc
      have HSc := hid hSc
      have HEr := hid hEr
      clear hSc hEr hc
      go_wp2
      go_end0
      refine ⟨rfl, store_in (store_off HEr.out hgc), ?_, ?_⟩
      · have hl2 : (((t, ⟨⟨b0, x0, y0⟩, ⟨b, x, y⟩⟩) :: L) : List (Nat × Stp)).take 256 = (t, ⟨⟨b0, x0, y0⟩, ⟨b, x, y⟩⟩) :: L.take 255 := rfl
        rw [← hl2]
        refine Chn.cut 255 HLr.out (by rw [List.length_cons]; omega) (fun i hi d hd => ?_) (fun d hd => ?_)
        · have h1 := chn_ne HLr.out hd HC.out hi
          have h2 := ed_st_ne HEr.out (HLr.out.take i d hd)
          exact store_off (store_off rfl h1) (Ne.symm h2)
        · have hdc : d = c := by
            have := HC.out
            rw [hd] at this
            injection this
          rw [hdc]
          exact store_off (store_in HSc.out) hcg
      · refine (HTr.out.trans (Turn.set (p := ⟨c.1, 6, none⟩) ?_ _)).trans (Turn.set (p := ⟨g, 6, none⟩) (Or.inl rfl) _)
        have h1 := HC.out
        rw [List.getElem?_cons_succ] at h1
        exact .inr (.inr ⟨c, List.mem_of_getElem? h1, rfl⟩)
end
end Go.Proofs.YtcfgpmmclijonaaGreatDoor

/- Layer 25: change, where the past is full. Printed by gen_ep2.py. -/
namespace Go.Proofs.YtcfgpmmclijonaaGreatDoor
set_option linter.unusedVariables false
set_option linter.unusedSimpArgs false
set_option maxRecDepth 100000
open Go.RowKit Go.Shelf Go.Lib
set_option maxRecDepth 100000
set_option maxHeartbeats 8000000

section
variable {w : World} {g : Nat} {b : ByteArray} {x y : Nat} {q : Value} {m : Nat} {L : List (Nat × Stp)}
theorem change_full (h : EdAt w g b x y (.pointer (nx L)) q 256 m) (hL : Chn w L) (hl6 : L.length = 256) (s : ByteArray) (lo hi : Nat) (hlh : lo ≤ hi) (hhb : hi ≤ b.size) (hb : b.size ≤ 65536) (hs : s.size ≤ 1000000) (hl : b.size - (hi - lo) + s.size ≤ 65536) (hd : ¬ (lo = hi ∧ s.size = 0)) :
    Calls Tryz.prog 25 #[.pointer (some ⟨g, 0, none⟩), .string s, .int .i64 (lo : Int), .int .i64 (hi : Int)] w fun e w' => ∃ t z, e = .returned (.int .i64 0) ∧ z = settledE (b.extract 0 lo ++ s ++ b.extract hi b.size).data.toList (lo + s.size) ∧
      EdAt w' g (b.extract 0 lo ++ s ++ b.extract hi b.size) z z (.pointer (some ⟨t, 0, none⟩)) (.pointer none) 256 0 ∧ Chn w' ((t, ⟨⟨b, x, y⟩, ⟨b.extract 0 lo ++ s ++ b.extract hi b.size, z, z⟩⟩) :: L.take 255) ∧ w.heap.size ≤ t ∧ Turn (fun j => j = g ∨ InC L j) w w' := by
  have HL := hid hL
  have hgL : ∀ c ∈ L, c.1 ≠ g := by
    intro c hc e
    obtain ⟨i, hi⟩ := List.mem_iff_getElem?.1 hc
    exact ed_st_ne h (hL.take i c hi) e.symm
  have HGL := hid hgL
  have HLL := hid hL.lt
  clear hL hgL
  have hB1 := (Below.refl w.heap.size w).alloc (Nat.le_refl _) (.cells #[.pointer (some ⟨g, 0, none⟩)] 23)
  have hr : (w.alloc (.cells #[.pointer (some ⟨g, 0, none⟩)] 23)).heap[w.heap.size]? = some (.cells #[.pointer (some ⟨g, 0, none⟩)] 23 (0, 0)) := World.alloc_heap_new _ _
  have h1 := h.on hB1
  obtain ⟨c0, c1, c2, c3, c4, c5, c6, c7⟩ := h1.cells
  have cE := blk_cell hr 0
  have lg := h.lt
  have lg1 : g < w.heap.size + 1 := by omega
  have lE : w.heap.size < w.heap.size + 1 := by omega
  have H1 := hid h1
  have HR := hid hr
  have k1 : decide ((65536 : Int) < (b.size : Int) - ((hi : Int) - (lo : Int)) + (s.size : Int)) = false := decide_eq_false (by omega)
  have k2 : ¬ (65536 : Int) < (b.size : Int) - ((hi : Int) - (lo : Int)) + (s.size : Int) := by omega
  have hse : (s.toList == []) = decide (s.size = 0) := by
    rw [ByteArray.toList_eq, ← ba_len]
    cases s.data.toList <;> simp
  have hcase : (((lo : Int) == (hi : Int)) = false) ∨ (((lo : Int) == (hi : Int)) = true ∧ (s.toList == []) = false) := by
    by_cases h : lo = hi
    · exact .inr ⟨beq_iff_eq.2 (by omega), by rw [hse]; exact decide_eq_false (fun h' => hd ⟨h, h'⟩)⟩
    · exact .inl (beq_eq_false_iff_ne.2 (by omega))
  have hmf : ∀ (fn : Fn) (first cap : Array Value) (w : World), (Instr.makeFunc fn first cap).run Tryz.prog w = .ok (.func fn first cap) w := fun _ _ _ _ => rfl
  clear h h1 hr hse hd
  go_enter_defers Tryz.func25, Tryz.ntmps25
  rcases hcase with q1 | ⟨q1, q2⟩
  all_goals
    go_upto_region 6 with fail
    go_cut [10] from 34 to 44 (fun v wx => ∃ t bO, v = .pointer (some ⟨bO, 0, none⟩) ∧ w.heap.size + 1 ≤ t ∧ w.heap.size + 1 ≤ bO ∧ t ≠ bO ∧ StAt wx t b x y { data := #[] } 0 0 (.pointer (nx L)) ∧ wx.heap[bO]? = some (.cells #[.pointer (some ⟨t, 0, none⟩)] 40 (0, 0)) ∧ Below (w.heap.size + 1) (w.alloc (.cells #[.pointer (some ⟨g, 0, none⟩)] 23)) wx)
    case first =>
      have hmx := mixed
      go_region
      all_goals go_wp2
      all_goals go_meet
      all_goals
        first
          | (obtain ⟨a1, a2, a3⟩ := two_allocs (w.alloc (.cells #[.pointer (some ⟨g, 0, none⟩)] 23)) (.cells (stC b x y { data := #[] } 0 0 (.pointer (nx L))) 73) (.cells #[.pointer (some ⟨w.heap.size + 1, 0, none⟩)] 40) (World.size_alloc _ _)
             exact ⟨w.heap.size + 1, w.heap.size + 1 + 1, rfl, by omega, by omega, by omega, a1, a2, a3⟩)
          | (obtain ⟨a1, a2, a3⟩ := two_allocs (w.alloc (.cells #[.pointer (some ⟨g, 0, none⟩)] 23)) (.cells #[.pointer (some ⟨w.heap.size + 1 + 1, 0, none⟩)] 40) (.cells (stC b x y { data := #[] } 0 0 (.pointer (nx L))) 73) (World.size_alloc _ _)
             exact ⟨w.heap.size + 1 + 1, w.heap.size + 1, rfl, by omega, by omega, by omega, a2, a1, a3⟩)
          | trace_state
    case rest =>
      obtain ⟨t, bO, rfl, ht, hbo, hne, hS, hO, hbx⟩ := hcut
      clear c0 c1 c2 c3 c4 c5 c6 c7 cE
      have hE := H1.out.below hbx lg1
      have hbox := (hbx.block w.heap.size lE).trans HR.out
      obtain ⟨c0, c1, c2, c3, c4, c5, c6, c7⟩ := hE.cells
      have cE : wc.cell? ⟨w.heap.size, 0, none⟩ = some (.pointer (some ⟨g, 0, none⟩)) := by rw [blk_cell hbox 0]; rfl
      have lgx := hE.lt
      have lEx : w.heap.size < wc.heap.size := lt_of_block hbox
      have HE := hid hE
      have HS := hid hS
      have HO := hid hO
      have HBX := hid hbx
      have HBOX := hid hbox
      clear hE hS hO hbx hbox
      have v1 : ¬ 9223372036854775807 < lo + s.size := by omega
      have v2 : ¬ 9223372036854775807 < lo + s.size + (b.size - hi) := by omega
      have v3 : (lo : Int) ≤ (b.size : Int) := by omega
      have v4 : (hi : Int) ≤ (b.size : Int) := by omega
      have v5 : lo ≤ b.size := by omega
      go_wp2
      refine region_ext_last 1 mixed (by kernel_rfl) ?_
      simp only [List.length_cons, List.length_nil, Nat.reduceAdd, Nat.reduceSub, List.take_succ_cons, List.take_zero, List.drop_succ_cons, List.drop_zero]
      (repeat (go_big_quiet_step (fail)))
      refine wpQuiet_nil ?_
      intro w4 hb4
      clear c0 c1 c2 c3 c4 c5 c6 c7 cE
      have hE4 := HE.out.on hb4
      have f1 := hE4.free 1
      have c1 := hE4.cells.2.1
      have hE5 : EdAt (w4.setCell ⟨g, 1, none⟩ (.string (b.extract 0 lo ++ s ++ b.extract hi b.size))) g (b.extract 0 lo ++ s ++ b.extract hi b.size) x y (.pointer (nx L)) q 256 m := store_in hE4
      have hbox4 := (hb4.block w.heap.size lEx).trans HBOX.out
      have hbox5 : (w4.setCell ⟨g, 1, none⟩ (.string (b.extract 0 lo ++ s ++ b.extract hi b.size))).heap[w.heap.size]? = _ := store_off hbox4 (by omega)
      have cE : w4.cell? ⟨w.heap.size, 0, none⟩ = some (.pointer (some ⟨g, 0, none⟩)) := by rw [blk_cell hbox4 0]; rfl
      have hns : (b.extract 0 lo ++ s ++ b.extract hi b.size).size = lo + s.size + (b.size - hi) := by
        rw [ByteArray.size_append, ByteArray.size_append, ByteArray.size_extract, ByteArray.size_extract]
        omega
      have CS := fun w1 => settled_any (b.extract 0 lo ++ s ++ b.extract hi b.size) (lo + s.size) w1 (by omega) (by omega)
      have hw4 : w4.heap.size = w4.heap.size := rfl
      have HE5 := hid hE5
      have HBOX5 := hid hbox5
      have hcE5 : (w4.setCell ⟨g, 1, none⟩ (.string (b.extract 0 lo ++ s ++ b.extract hi b.size))).cell? ⟨w.heap.size, 0, none⟩ = some (.pointer (some ⟨g, 0, none⟩)) := by rw [blk_cell hbox5 0]; rfl
      have hc15 := hE5.cells.2.1
      obtain ⟨z, hz⟩ : ∃ z, settledE (b.extract 0 lo ++ s ++ b.extract hi b.size).data.toList (lo + s.size) = z := ⟨_, rfl⟩
      rw [hz] at CS
      have HZ := hid hz
      obtain ⟨nb, hnb⟩ : ∃ y, b.extract 0 lo ++ s ++ b.extract hi b.size = y := ⟨_, rfl⟩
      simp only [Int.natCast_add] at CS
      rw [hnb] at CS HE5 HBOX5 hcE5 hc15
      have HNB := hid hnb
      have HB4 := hid hb4
      have hgt : t ≠ g := by omega
      have hgo : bO ≠ g := by omega
      have hgx : w.heap.size ≠ g := by omega
      have hS5 : StAt (w4.setCell ⟨g, 1, none⟩ (.string nb)) t b x y { data := #[] } 0 0 (.pointer (nx L)) := store_off (HS.out.on hb4) hgt
      have hO5 : (w4.setCell ⟨g, 1, none⟩ (.string nb)).heap[bO]? = some (.cells #[.pointer (some ⟨t, 0, none⟩)] 40 (0, 0)) := store_off ((hb4.block _ (lt_of_block HO.out)).trans HO.out) hgo
      have HS5 := hid hS5
      have HO5 := hid hO5
      clear hE4 hE5 hbox4 hbox5 hz hb4 hns hS5 hO5 hnb
      go_wp2_with fail
      rw [HNB.out]
      with_reducible refine (CS _).mono ?_
      rintro e w5 ⟨rfl, hb5⟩
      have hE6 := HE5.out.on hb5
      have hS6 := HS5.out.on hb5
      have hO6 := (hb5.block _ (lt_of_block HO5.out)).trans HO5.out
      have hX6 := (hb5.block _ (lt_of_block HBOX5.out)).trans HBOX5.out
      clear cE hcE5 hc15 f1 c1
      have cE : w5.cell? ⟨w.heap.size, 0, none⟩ = some (.pointer (some ⟨g, 0, none⟩)) := by rw [blk_cell hX6 0]; rfl
      have c2 := hE6.cells.2.2.1
      have c3 := hE6.cells.2.2.2.1
      have f2 := hE6.free 2
      have f3 := hE6.free 3
      have hE7 : EdAt ((w5.setCell ⟨g, 2, none⟩ (.int .i64 (z : Int))).setCell ⟨g, 3, none⟩ (.int .i64 (z : Int))) g nb z z (.pointer (nx L)) q 256 m := store_in (store_in hE6)
      have hS7 : StAt ((w5.setCell ⟨g, 2, none⟩ (.int .i64 (z : Int))).setCell ⟨g, 3, none⟩ (.int .i64 (z : Int))) t b x y { data := #[] } 0 0 (.pointer (nx L)) := store_off (store_off hS6 hgt) hgt
      have hO7 : ((w5.setCell ⟨g, 2, none⟩ (.int .i64 (z : Int))).setCell ⟨g, 3, none⟩ (.int .i64 (z : Int))).heap[bO]? = _ := store_off (store_off hO6 hgo) hgo
      have hX7 : ((w5.setCell ⟨g, 2, none⟩ (.int .i64 (z : Int))).setCell ⟨g, 3, none⟩ (.int .i64 (z : Int))).heap[w.heap.size]? = _ := store_off (store_off hX6 hgx) hgx
      have HG : Hid (w.grownBy ((w5.setCell ⟨g, 2, none⟩ (.int .i64 (z : Int))).setCell ⟨g, 3, none⟩ (.int .i64 (z : Int))) (some g)) :=
        hid (grown_cell (grown_cell (grown_then (grown_cell (grown_below (hB1.trans ((HBX.out.mono (by omega)).trans (HB4.out.mono (by omega)))) (World.grownBy.refl _ _))) hb5)))
      have hL7 : Chn ((w5.setCell ⟨g, 2, none⟩ (.int .i64 (z : Int))).setCell ⟨g, 3, none⟩ (.int .i64 (z : Int))) L := HL.out.same fun c hc => HG.out.block c.1 (HLL.out c hc) (fun e => by injection e with e; exact HGL.out c hc e)
      have CH := chg_full .returning hE7 hS7 hL7 hl6 (fun c hc => by have := HLL.out c hc; omega) (Ne.symm hgt) hX7 (by rw [blk_cell hO7 0]; rfl) ⟨hgx, by omega⟩ ⟨hgo, Ne.symm hne⟩
      have HCH := hid CH
      clear hE6 hS6 hO6 hX6 hE7 hS7 hO7 hX7 CH CS
      go_wp2
      refine leaves_cons (f := 49) (args := #[.pointer (some ⟨w.heap.size, 0, none⟩), .pointer (some ⟨bO, 0, none⟩)]) (by simp) (by simp [go_sem]) ?_
      refine HCH.out.mono ?_
      rintro e u' w8 ⟨rfl, rfl, h8, s8, T8⟩
      have hg8 : Turn (fun j => j = g ∨ InC L j) w w8 := ⟨T8.os.trans HG.out.os, T8.tape.trans HG.out.tape, T8.output.trans HG.out.output, Nat.le_trans HG.out.size T8.size, fun j hj hn => by
        rw [T8.block j (by have := HG.out.size; omega) (by rintro (e | e | e)
                                                           · exact hn (.inl e)
                                                           · omega
                                                           · exact hn (.inr e))]
        exact HG.out.block j hj (fun e => by injection e with e; exact hn (.inl e))⟩
      refine ⟨.int .i64 0, by simp [results, Tryz.results25, go_sem], t, z, rfl, HZ.out.symm, ?_, ?_, by omega, hg8⟩
      · rw [HNB.out]; exact h8
      · rw [HNB.out]; exact s8
end
end Go.Proofs.YtcfgpmmclijonaaGreatDoor

/- Layer 25: an editor with its two chains: change, Type, the frame of Key. -/
namespace Go.Proofs.YtcfgpmmclijonaaGreatDoor
set_option linter.unusedVariables false
set_option linter.unusedSimpArgs false
set_option maxRecDepth 100000
open Go.RowKit Go.Shelf Go.Lib
set_option maxRecDepth 100000
set_option maxHeartbeats 8000000

theorem Chn.not_ed {w : World} {g : Nat} {E : Ed} (hE : EdS w g E) {L : List (Nat × Stp)} (hL : Chn w L) : ∀ c ∈ L, c.1 ≠ g := by
  intro c hc e
  obtain ⟨i, hi⟩ := List.mem_iff_getElem?.1 hc
  exact ed_st_ne hE (hL.take i c hi) e.symm
/-- The program's editor with its past and with what it has undone. -/
structure PgS (w : World) (g : Nat) (E : Ed) (L M : List (Nat × Stp)) : Prop where
  ed : EdS w g E
  p : E.p = nx L
  q : E.q = nx M
  cp : Chn w L
  cq : Chn w M
  k : E.k = L.length
  m : E.m = M.length
  le : L.length + M.length ≤ 256
def PFoot (g : Nat) (L : List (Nat × Stp)) (j : Nat) : Prop := j = g ∨ InC L j
section
variable {w w' : World} {g : Nat} {E E' : Ed} {L M : List (Nat × Stp)}
theorem PgS.on (h : PgS w g E L M) (hb : Below w.heap.size w w') : PgS w' g E L M := ⟨h.ed.on hb, h.p, h.q, h.cp.on hb, h.cq.on hb, h.k, h.m, h.le⟩
theorem PgS.go (h : PgS w g E L M) (hE : EdS w' g E') (hp : E'.p = E.p) (hq : E'.q = E.q) (hk : E'.k = E.k) (hm : E'.m = E.m) (t : Turn (fun j => j = g) w w') : PgS w' g E' L M :=
  ⟨hE, hp.trans h.p, hq.trans h.q, h.cp.turn t (h.cp.not_ed h.ed), h.cq.turn t (h.cq.not_ed h.ed), hk.trans h.k, hm.trans h.m, h.le⟩
theorem PgS.keep (h : PgS w g E L M) (hk : ∀ j, j = g ∨ InC L j ∨ InC M j → w'.heap[j]? = w.heap[j]?) : PgS w' g E L M :=
  ⟨by have := h.ed; unfold EdS EdAt at this ⊢; rw [hk g (.inl rfl)]; exact this, h.p, h.q, h.cp.same fun c hc => hk _ (.inr (.inl ⟨c, hc, rfl⟩)), h.cq.same fun c hc => hk _ (.inr (.inr ⟨c, hc, rfl⟩)), h.k, h.m, h.le⟩
theorem PgS.foot (h : PgS w g E L M) {j : Nat} (hj : PFoot g L j) : j < w.heap.size := by
  rcases hj with rfl | ⟨c, hc, rfl⟩
  · exact h.ed.lt
  · exact h.cp.lt c hc
/-- What a change leaves. -/
def ChP (w : World) (g : Nat) (E : Ed) (L M : List (Nat × Stp)) (s : ByteArray) (lo hi : Nat) (e : Ending) (w' : World) : Prop :=
  (65536 < E.b.size - (hi - lo) + s.size ∧ e = .returned (.int .i64 3) ∧ Below w.heap.size w w') ∨
  (E.b.size - (hi - lo) + s.size ≤ 65536 ∧ lo = hi ∧ s.size = 0 ∧ e = .returned (.int .i64 0) ∧ Below w.heap.size w w') ∨
  (E.b.size - (hi - lo) + s.size ≤ 65536 ∧ ¬ (lo = hi ∧ s.size = 0) ∧ ∃ t z, e = .returned (.int .i64 0) ∧ z = settledE (cat3 E.b s lo hi).data.toList (lo + s.size) ∧ w.heap.size ≤ t ∧
    PgS w' g ⟨cat3 E.b s lo hi, z, z, some ⟨t, 0, none⟩, none, min (L.length + 1) 256, 0⟩ (((t, ⟨⟨E.b, E.x, E.y⟩, ⟨cat3 E.b s lo hi, z, z⟩⟩) :: L).take 256) [] ∧ Turn (PFoot g L) w w')
theorem change_pg (h : PgS w g E L M) (s : ByteArray) (lo hi : Nat) (hlh : lo ≤ hi) (hhb : hi ≤ E.b.size) (hb : E.b.size ≤ 65536) (hs : s.size ≤ 1000000) :
    Calls Tryz.prog 25 #[.pointer (some ⟨g, 0, none⟩), .string s, .int .i64 (lo : Int), .int .i64 (hi : Int)] w (ChP w g E L M s lo hi) := by
  have hle := h.le
  by_cases hl : E.b.size - (hi - lo) + s.size ≤ 65536
  · by_cases hn : lo = hi ∧ s.size = 0
    · obtain ⟨rfl, hn⟩ := hn
      refine (change_none h.ed lo hhb hb s hn).mono ?_
      rintro e w' ⟨rfl, hb'⟩
      exact .inr (.inl ⟨hl, rfl, hn, rfl, hb'⟩)
    · by_cases hk : L.length < 256
      · refine (change_any h.ed s lo hi hlh hhb hb hs hl hn (by rw [h.k]; exact hk)).mono ?_
        rintro e w' ⟨t, z, rfl, hz, hE, hS, ht, hg⟩
        have T1 : Turn (fun j => j = g) w w' := Turn.grown hg (fun k hk => by injection hk with hk; exact hk.symm)
        refine .inr (.inr ⟨hl, hn, t, z, rfl, hz, ht, ?_, T1.wider fun k hk => .inl hk⟩)
        rw [List.take_of_length_le (by rw [List.length_cons]; omega), Nat.min_eq_left (by omega)]
        refine ⟨?_, rfl, rfl, ⟨?_, h.cp.turn T1 (h.cp.not_ed h.ed)⟩, trivial, rfl, rfl, by simp; omega⟩
        · have hE' : EdAt w' g (cat3 E.b s lo hi) z z (.pointer (some ⟨t, 0, none⟩)) (.pointer none) (E.k + 1) 0 := hE
          rw [h.k] at hE'
          exact hE'
        · have hS' : StAt w' t E.b E.x E.y (cat3 E.b s lo hi) z z (.pointer E.p) := hS
          rw [h.p] at hS'
          exact hS'
      · have h6 : L.length = 256 := by omega
        have h1 : EdAt w g E.b E.x E.y (.pointer (nx L)) (.pointer E.q) 256 E.m := by
          have := h.ed
          unfold EdS at this
          rw [h.p, h.k, h6] at this
          exact this
        refine (change_full h1 h.cp h6 s lo hi hlh hhb hb hs hl hn).mono ?_
        rintro e w' ⟨t, z, rfl, hz, hE, hS, ht, hg⟩
        refine .inr (.inr ⟨hl, hn, t, z, rfl, hz, ht, ?_, hg⟩)
        rw [h6]
        refine ⟨hE, rfl, rfl, hS, trivial, ?_, rfl, ?_⟩
        · show min 257 256 = _
          rw [List.length_take, List.length_cons, h6]
          decide
        · rw [List.length_take, List.length_cons, h6]
          decide
  · refine (change_long h.ed s lo hi hlh hhb hb hs (by omega)).mono ?_
    rintro e w' ⟨rfl, hb'⟩
    exact .inl ⟨by omega, rfl, hb'⟩
theorem ChP.before {w1 w2 : World} {s : ByteArray} {lo hi : Nat} {e : Ending} (hb : Below w.heap.size w w1) (h : ChP w1 g E L M s lo hi e w2) : ChP w g E L M s lo hi e w2 := by
  have hsz := hb.size
  rcases h with ⟨h1, h2, h3⟩ | ⟨h1, h2, h3, h4, h5⟩ | ⟨h1, h2, t, z, h3, h4, h5, h6, h7⟩
  · exact .inl ⟨h1, h2, hb.trans (h3.mono hsz)⟩
  · exact .inr (.inl ⟨h1, h2, h3, h4, hb.trans (h5.mono hsz)⟩)
  · exact .inr (.inr ⟨h1, h2, t, z, h3, h4, by omega, h6, (Turn.of_below hb).trans h7⟩)
theorem ChP.ret {s : ByteArray} {lo hi : Nat} {e : Ending} (h : ChP w g E L M s lo hi e w') : ∃ err : Int, e = .returned (.int .i64 err) := by
  rcases h with ⟨_, h2, _⟩ | ⟨_, _, _, h4, _⟩ | ⟨_, _, t, z, h3, _⟩
  · exact ⟨_, h2⟩
  · exact ⟨_, h4⟩
  · exact ⟨_, h3⟩
theorem Type_pg (h : PgS w g E L M) (hx : E.x ≤ E.b.size) (hy : E.y ≤ E.b.size) (hb : E.b.size ≤ 65536) (s : ByteArray) (hs : s.size ≤ 1000000) :
    Calls Tryz.prog 7 #[.pointer (some ⟨g, 0, none⟩), .string s] w (ChP w g E L M s (min E.x E.y) (max E.x E.y)) := by
  have C := is_any h.ed
  have HH := hid h
  obtain ⟨lo, hlo⟩ : ∃ z, min E.x E.y = z := ⟨_, rfl⟩
  obtain ⟨hi, hhi⟩ : ∃ z, max E.x E.y = z := ⟨_, rfl⟩
  have n1 : lo ≤ hi := by omega
  have n2 : hi ≤ E.b.size := by omega
  have CS := fun w1 (h1 : EdS w1 g E) => span_any h1
  rw [hlo, hhi] at CS
  rw [hlo, hhi]
  have HCS := hid CS
  clear h CS hlo hhi
  go_enter Tryz.func7, Tryz.ntmps7
  go_wp2_with fail
  with_reducible refine C.mono ?_
  rintro e w1 ⟨rfl, hb1⟩
  have h1 := HH.out.on hb1
  have C2 := HCS.out w1 h1.ed
  have H1 := hid h1
  clear C h1
  go_wp2_with fail
  with_reducible refine C2.mono ?_
  rintro e w2 ⟨rfl, hb2⟩
  have C3 := change_pg (H1.out.on hb2) s lo hi n1 n2 hb hs
  have hB2 := hb1.trans (hb2.mono hb1.size)
  clear C2
  go_wp2_with fail
  with_reducible refine C3.mono ?_
  intro e w3 hc
  obtain ⟨err, rfl⟩ := hc.ret
  have HC := hid (hc.before hB2)
  clear C3 hc
  go_wp2
  refine bodyPost_ret (v := .int .i64 err) (by simp [results, Tryz.results7, go_sem, *]) rfl HC.out
/-- What Key answers and leaves. -/
def KPP (w : World) (g : Nat) (E : Ed) (L M : List (Nat × Stp)) (a : KAct) (e : Ending) (w' : World) : Prop :=
  match a with
  | .go x' y' => e = .returned (.tuple #[.bool (!txEq E.b E.b (x' : Int) (E.x : Int) (y' : Int) (E.y : Int)), .int .i64 0]) ∧ PgS w' g { E with x := x', y := y' } L M ∧ Turn (fun j => j = g) w w'
  | .no => e = .returned (.tuple #[.bool false, .int .i64 0]) ∧ PgS w' g E L M ∧ Turn (fun j => j = g) w w'
  | .ed s lo hi => (65536 < E.b.size - (hi - lo) + s.size ∧ e = .returned (.tuple #[.bool false, .int .i64 3]) ∧ PgS w' g E L M ∧ Turn (PFoot g L) w w') ∨
    (E.b.size - (hi - lo) + s.size ≤ 65536 ∧ lo = hi ∧ s.size = 0 ∧ e = .returned (.tuple #[.bool false, .int .i64 0]) ∧ PgS w' g E L M ∧ Turn (PFoot g L) w w') ∨
    (E.b.size - (hi - lo) + s.size ≤ 65536 ∧ ¬ (lo = hi ∧ s.size = 0) ∧ ∃ t z : Nat, e = .returned (.tuple #[.bool (!txEq (cat3 E.b s lo hi) E.b (z : Int) (E.x : Int) (z : Int) (E.y : Int)), .int .i64 0]) ∧ z = settledE (cat3 E.b s lo hi).data.toList (lo + s.size) ∧ w.heap.size ≤ t ∧
      PgS w' g ⟨cat3 E.b s lo hi, z, z, some ⟨t, 0, none⟩, none, min (L.length + 1) 256, 0⟩ (((t, ⟨⟨E.b, E.x, E.y⟩, ⟨cat3 E.b s lo hi, z, z⟩⟩) :: L).take 256) [] ∧ Turn (PFoot g L) w w')
end
def KLf (F : Nat → Prop) (w : World) (b0 g : Nat) (E : Ed) (M : World) (E' : Ed) (err : Int) (w' : World) : Prop :=
  EdS w' g E' ∧ w'.cell? ⟨b0 + 1 + 1 + 1, 0, none⟩ = some (.int .i64 err) ∧ w'.cell? ⟨b0 + 1 + 1, 0, none⟩ = some (.bool (decide (err = 0) && !txEq E'.b E.b (E'.x : Int) (E.x : Int) (E'.y : Int) (E.y : Int))) ∧ Turn F w w' ∧
    ∀ j, j < M.heap.size → j ≠ b0 + 1 + 1 → j ≠ b0 + 1 + 1 + 1 → w'.heap[j]? = M.heap[j]?
section
variable {b0 bB g : Nat} {s : ByteArray} {md : Nat} {E : Ed} {M : World} {F : Nat → Prop}
theorem KB.turn {M' : World} (h : KB b0 bB g s md E M) (ht : Turn F M M') (h0 : ∀ j, b0 ≤ j → ¬ F j) (h1 : b0 ≤ bB) : KB b0 bB g s md E M' :=
  ⟨(ht.block _ (lt_of_block h.n0) (h0 _ (by omega))).trans h.n0, (ht.block _ (lt_of_block h.n1) (h0 _ (by omega))).trans h.n1, (ht.block _ (lt_of_block h.n2) (h0 _ (by omega))).trans h.n2, (ht.block _ (lt_of_block h.n3) (h0 _ (by omega))).trans h.n3, (ht.block _ (lt_of_block h.nB) (h0 _ h1)).trans h.nB⟩
theorem turn_new {w w1 : World} {j i : Nat} {u : Value} (h : Turn F w w1) (hj : w.heap.size ≤ j) : Turn F w (w1.setCell ⟨j, i, none⟩ u) := by
  refine ⟨h.os, h.tape, h.output, by simpa using h.size, fun k hk hne => ?_⟩
  rw [heap_setCell_other _ _ _ _ (fun e => by simp only at e; omega)]
  exact h.block k hk hne
theorem key_fn {w : World} {E' : Ed} (h : KB b0 bB g s md E M) (hE : EdS M g E') (hM : Turn F w M) (h0 : w.heap.size = b0) (h1 : w.heap.size + 4 ≤ bB) (h2 : g < w.heap.size) (err : Int) :
    CallsD Tryz.prog 28 #[.pointer (some ⟨b0 + 1 + 1 + 1, 0, none⟩), .pointer (some ⟨b0, 0, none⟩), .pointer (some ⟨bB, 0, none⟩), .pointer (some ⟨b0 + 1 + 1, 0, none⟩)] .returning
      ((M.setCell ⟨b0 + 1 + 1, 0, none⟩ (.bool false)).setCell ⟨b0 + 1 + 1 + 1, 0, none⟩ (.int .i64 err)) fun e u' w' => u' = .returning ∧ (e = .returned (.tuple #[]) ∧ KLf F w b0 g E M E' err w') := by
  obtain ⟨L, hL⟩ : ∃ L, (M.setCell ⟨b0 + 1 + 1, 0, none⟩ (.bool false)).setCell ⟨b0 + 1 + 1 + 1, 0, none⟩ (.int .i64 err) = L := ⟨_, rfl⟩
  have hE7 : EdS L g E' := by
    rw [← hL]
    exact store_off (store_off hE (by omega)) (by omega)
  have hB7 : L.heap[bB]? = some (.cells #[.string E.b, .int .i64 (E.x : Int), .int .i64 (E.y : Int)] 39 (0, 0)) := by
    rw [← hL]
    exact store_off (store_off h.nB (by omega)) (by omega)
  have h07 : L.heap[b0]? = some (.cells #[.pointer (some ⟨g, 0, none⟩)] 23 (0, 0)) := by
    rw [← hL]
    exact store_off (store_off h.n0 (by omega)) (by omega)
  have h27 : L.heap[b0 + 1 + 1]? = some (.cells #[.bool false] 4 (0, 0)) := by
    rw [← hL]
    exact store_off (store_in h.n2) (by omega)
  have h37 : L.heap[b0 + 1 + 1 + 1]? = some (.cells #[.int .i64 err] 24 (0, 0)) := by
    rw [← hL]
    exact store_in (store_off h.n3 (by omega))
  have hg7 : Turn F w L := by
    rw [← hL]
    exact turn_new (turn_new hM (by omega)) (by omega)
  have hk7 : ∀ j, j ≠ b0 + 1 + 1 → j ≠ b0 + 1 + 1 + 1 → L.heap[j]? = M.heap[j]? := fun j q1 q2 => by
    rw [← hL, heap_setCell_other _ _ _ _ q2, heap_setCell_other _ _ _ _ q1]
  have hs7 : L.heap.size = M.heap.size := by rw [← hL]; simp
  rw [hL]
  have fin : ∀ (o : Bool) (w' : World), w'.heap[b0 + 1 + 1]? = some (.cells #[.bool o] 4 (0, 0)) → Turn (fun j => j = b0 + 1 + 1) L w' → o = (decide (err = 0) && !txEq E'.b E.b (E'.x : Int) (E.x : Int) (E'.y : Int) (E.y : Int)) → KLf F w b0 g E M E' err w' := by
    intro o w' q1 T8 q2
    have r3 := (T8.block _ (lt_of_block h37) (by omega)).trans h37
    refine ⟨?_, by rw [blk_cell r3]; rfl, by rw [blk_cell q1, ← q2]; rfl, ⟨T8.os.trans hg7.os, T8.tape.trans hg7.tape, T8.output.trans hg7.output, Nat.le_trans hg7.size T8.size, fun j hj hn => ?_⟩, fun j q3 q4 q5 => ?_⟩
    · unfold EdS EdAt
      rw [T8.block g (by have := hg7.size; omega) (by omega)]
      exact hE7
    · rw [T8.block j (by have := hg7.size; omega) (by omega)]
      exact hg7.block j hj hn
    · rw [T8.block j (by omega) q4]
      exact hk7 j q4 q5
  by_cases he : err = 0
  · subst he
    refine (keyd_any .returning hE7 hB7 (by rw [blk_cell h37]; rfl) (by rw [blk_cell h07]; rfl) h27 _ rfl).mono ?_
    rintro e u' w' ⟨rfl, rfl, q1, q2⟩
    exact ⟨rfl, rfl, fin _ w' q1 q2 (by simp)⟩
  · refine (keyd_err .returning (by rw [blk_cell h37]; rfl) he h27).mono ?_
    rintro e u' w' ⟨rfl, rfl, q1, q2⟩
    exact ⟨rfl, rfl, fin _ w' q1 q2 (by simp [he])⟩
theorem KB.not_st (kb : KB b0 bB g s md E M) {L : List (Nat × Stp)} (hL : Chn M L) : ∀ c ∈ L, c.1 ≠ b0 + 1 + 1 ∧ c.1 ≠ b0 + 1 + 1 + 1 := by
  intro c hc
  obtain ⟨i, hi⟩ := List.mem_iff_getElem?.1 hc
  have h7 := hL.take i c hi
  constructor
  · intro e
    have := kb.n2
    unfold StAt at h7
    rw [← e, h7] at this
    simp [stC] at this
  · intro e
    have := kb.n3
    unfold StAt at h7
    rw [← e, h7] at this
    simp [stC] at this
theorem PgS.lift {w9 : World} {E' : Ed} {L N : List (Nat × Stp)} (h : PgS M g E' L N) (kb : KB b0 bB g s md E M) (hg : g < b0) (hk : ∀ j, j < M.heap.size → j ≠ b0 + 1 + 1 → j ≠ b0 + 1 + 1 + 1 → w9.heap[j]? = M.heap[j]?) : PgS w9 g E' L N := by
  refine h.keep fun j hj => ?_
  rcases hj with rfl | ⟨c, hc, rfl⟩ | ⟨c, hc, rfl⟩
  · exact hk _ h.ed.lt (by omega) (by omega)
  · exact hk _ (h.cp.lt c hc) (kb.not_st h.cp c hc).1 (kb.not_st h.cp c hc).2
  · exact hk _ (h.cq.lt c hc) (kb.not_st h.cq c hc).1 (kb.not_st h.cq c hc).2
theorem ChP.fin {w M w6 : World} {L N : List (Nat × Stp)} {t : ByteArray} {lo hi : Nat} {e : Ending} (hB : Below w.heap.size w M) (h : PgS M g E L N) (hc : ChP M g E L N t lo hi e w6) (kb : KB b0 bB g s md E M) (hg : g < b0) (h1 : b0 ≤ bB) (hF : ∀ j, b0 ≤ j → ¬ PFoot g L j) :
    ∃ (err : Int) (E' : Ed), e = .returned (.int .i64 err) ∧ EdS w6 g E' ∧ KB b0 bB g s md E w6 ∧ Turn (PFoot g L) w w6 ∧
      ∀ w9, (∀ j, j < w6.heap.size → j ≠ b0 + 1 + 1 → j ≠ b0 + 1 + 1 + 1 → w9.heap[j]? = w6.heap[j]?) → Turn (PFoot g L) w w9 →
        KPP w g E L N (.ed t lo hi) (.returned (.tuple #[.bool (decide (err = 0) && !txEq E'.b E.b (E'.x : Int) (E.x : Int) (E'.y : Int) (E.y : Int)), .int .i64 err])) w9 := by
  have hsz := hB.size
  rcases hc with ⟨h1, rfl, h3⟩ | ⟨h1, h2, h3, rfl, h5⟩ | ⟨h1, h2, tt, z, rfl, h4, h5, h6, h7⟩
  · have kb6 := kb.on h3
    exact ⟨3, E, rfl, (h.on h3).ed, kb6, Turn.of_below (hB.trans (h3.mono hsz)), fun w9 hk ht => .inl ⟨h1, rfl, (h.on h3).lift kb6 hg hk, ht⟩⟩
  · have kb6 := kb.on h5
    refine ⟨0, E, rfl, (h.on h5).ed, kb6, Turn.of_below (hB.trans (h5.mono hsz)), fun w9 hk ht => .inr (.inl ⟨h1, h2, h3, ?_, (h.on h5).lift kb6 hg hk, ht⟩)⟩
    rw [show txEq E.b E.b (E.x : Int) (E.x : Int) (E.y : Int) (E.y : Int) = true by simp [txEq]]
    rfl
  · have kb6 := kb.turn h7 hF (by assumption)
    refine ⟨0, _, rfl, h6.ed, kb6, (Turn.of_below hB).trans h7, fun w9 hk ht => .inr (.inr ⟨h1, h2, tt, z, ?_, h4, by omega, h6.lift kb6 hg hk, ht⟩)⟩
    simp
end
end Go.Proofs.YtcfgpmmclijonaaGreatDoor
