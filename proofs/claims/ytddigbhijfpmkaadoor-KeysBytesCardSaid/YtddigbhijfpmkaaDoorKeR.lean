/- Layer 21: bracket of the program. -/
import Derived.Test.YtddigbhijfpmkaaDoorKeQ
import Derived.Test.YtddigbhijfpmkaaDoorMonoS
import Derived.Test.YtddigbhijfpmkaaDoorRfMem
import Derived.Test.YtddigbhijfpmkaaDoorKePl
namespace Go.Proofs.YtddigbhijfpmkaaDoor
set_option linter.unusedVariables false
set_option linter.unusedSimpArgs false
set_option maxRecDepth 100000
open Go.RowKit Go.Shelf Go.Lib
set_option maxRecDepth 100000
set_option maxHeartbeats 4000000

/-- From world to world while a drawn region runs that stores a key in block R. -/
structure StE (R : Nat) (nm : ByteArray) (md : Nat) (u v : World) : Prop where
  t : Turn (fun k => k = R) u v
  alive : (∃ a b, Box2 u R a b) → ∃ a b, Box2 v R a b
  done : Box2 u R nm md → Box2 v R nm md
theorem box2_lt {w : World} {b : Nat} {nm : ByteArray} {md : Nat} (h : Box2 w b nm md) : b < w.heap.size := World.block_lt_of_cell? _ _ h.c0
theorem StE.trans {R : Nat} {nm : ByteArray} {md : Nat} {u v w : World} (h : StE R nm md u v) (k : StE R nm md v w) : StE R nm md u w := ⟨h.t.trans k.t, fun x => k.alive (h.alive x), fun x => k.done (h.done x)⟩
theorem StE.of_below {R : Nat} {nm : ByteArray} {md : Nat} {u v : World} (h : Below u.heap.size u v) : StE R nm md u v :=
  ⟨Turn.of_below h, fun ⟨a, b, x⟩ => ⟨a, b, x.below h (box2_lt x)⟩, fun x => x.below h (box2_lt x)⟩
theorem Box2.set0 {w : World} {b : Nat} {nm : ByteArray} {md : Nat} (h : Box2 w b nm md) (nm' : ByteArray) : Box2 (w.setCell ⟨b, 0, none⟩ (.string nm')) b nm' md := by
  refine ⟨World.cell?_setCell_same' _ _ _ (by rw [h.c0]; rfl), ?_, by rw [World.frozen?_setCell]; exact h.f0, by rw [World.frozen?_setCell]; exact h.f1⟩
  have := h.c0
  have h1 := h.c1
  simp [go_sem, *]
theorem Box2.store {w : World} {b : Nat} {nm : ByteArray} {md : Nat} (h : Box2 w b nm md) (nm' : ByteArray) (md' : Nat) : Box2 ((w.setCell ⟨b, 0, none⟩ (.string nm')).setCell ⟨b, 1, none⟩ (.int .u8 (md' : Int))) b nm' md' := (h.set0 nm').set1 md'
theorem StE.store {R : Nat} {nm : ByteArray} {md : Nat} {u : World} (h : ∃ a b, Box2 u R a b) : StE R nm md u ((u.setCell ⟨R, 0, none⟩ (.string nm)).setCell ⟨R, 1, none⟩ (.int .u8 (md : Int))) := by
  obtain ⟨a, b, x⟩ := h
  exact ⟨(Turn.set (C := fun k => k = R) (p := ⟨R, 0, none⟩) rfl _).trans (Turn.set (C := fun k => k = R) (p := ⟨R, 1, none⟩) rfl _), fun _ => ⟨_, _, x.store nm md⟩, fun _ => x.store nm md⟩
theorem pick_stableE {E : World → World → Prop} {Gs : List (Value → World → Prop)} (h : ∀ g ∈ Gs, ∀ v w w', g v w → E w w' → g v w') : ∀ i v w w', pick Gs i v w → E w w' → pick Gs i v w' := by
  intro i
  unfold pick
  by_cases hi : i < Gs.length
  · rw [show Gs.getD i (fun _ _ => True) = Gs[i] by simp [List.getD, hi]]
    exact h _ (List.getElem_mem hi)
  · rw [show Gs.getD i (fun _ _ => True) = fun _ _ => True by simp [List.getD, show Gs.length ≤ i by omega]]
    exact fun _ _ _ _ _ => trivial
def BoxV (R : Nat) (nm : ByteArray) (md : Nat) : Value → World → Prop := fun _ w => Box2 w R nm md
theorem num_run_at {s : ByteArray} {i : Nat} (h : i < s.size) : numRun (s.data.toList.drop i) = if 32 ≤ s[i].toNat ∧ s[i].toNat ≤ 63 then numRun (s.data.toList.drop (i + 1)) + 1 else 0 := by
  rw [List.drop_eq_getElem_cons (by rw [ba_len]; exact h), numRun_cons]
  rfl
theorem bracket_any (s : ByteArray) (w : World) (hT : Tabs w) (h2 : 2 ≤ s.size) (hs : s.size ≤ 4000000) : Calls Tryd.prog 34 #[.string s] w fun e w' => e = .returned (pV (bracketL s.data.toList)) ∧ Below w.heap.size w w' := by
  obtain ⟨Z, hZ⟩ : ∃ x, bracketL s.data.toList = x := ⟨_, rfl⟩
  rw [hZ]
  obtain ⟨I, hI⟩ : ∃ x, 2 + numRun (s.data.toList.drop 2) = x := ⟨_, rfl⟩
  have hz : Z = if I = s.size then (noKy, 0) else if 64 ≤ (s.data.toList.getD I 0).toNat ∧ (s.data.toList.getD I 0).toNat ≤ 126 then (listedL ((s.data.toList.take I).drop 2) (s.data.toList.getD I 0).toNat, I + 1) else (noKy, I) := by
    rw [← hZ, ← hI, ← ba_len]
    rfl
  have HZ := hid hz
  have HI := hid hI
  clear hZ hI hz
  have hB1 := (Below.refl w.heap.size w).alloc (Nat.le_refl _) (.cells #[.string { data := #[] }, .int .u8 0] 31)
  have CL := fun b (w1 : World) (hb : Below w.heap.size w w1) => listed_any (s.extract 2 I) b w1 (tabs_on hT hb) (by rw [ByteArray.size_extract]; omega)
  rw [ba_sub] at CL
  have HCL := hid CL
  clear CL
  go_enter Tryd.func34, Tryd.ntmps34
  go_wp2
  go_loopw [4] (fun v wr => ∃ i : Nat, v = .int .i64 i ∧ 2 ≤ i ∧ i ≤ s.size ∧ Hid (i + numRun (s.data.toList.drop i) = I) ∧ wr = w.alloc (.cells #[.string { data := #[] }, .int .u8 0] 31)) (fun v _ => s.size - (RowKit.intOf v).toNat)
  case atStart => exact ⟨2, rfl, Nat.le_refl _, h2, HI, rfl⟩
  case round =>
    obtain ⟨i, rfl, hi2, his, HN, rfl⟩ := hrel
    have hn := HN.out
    by_cases hl : i < s.size
    · have i1 : (i : Int) < (s.size : Int) := by omega
      have i2 : decide ((i : Int) < (s.size : Int)) = true := decide_eq_true i1
      have i3 : decide (i < s.size) = true := decide_eq_true hl
      rw [num_run_at hl] at hn
      have hgd : s.data.toList.getD i 0 = s[i] := by
        rw [List.getD_eq_getElem?_getD, List.getElem?_eq_getElem (by rw [ba_len]; exact hl)]
        rfl
      by_cases hr : 32 ≤ s[i].toNat ∧ s[i].toNat ≤ 63
      · rw [if_pos hr] at hn
        have r1 : decide ((32 : Int) ≤ (s[i].toNat : Int)) = true := decide_eq_true (by omega)
        have r2 : decide ((s[i].toNat : Int) ≤ 63) = true := decide_eq_true (by omega)
        have HN2 := hid (show i + 1 + numRun (s.data.toList.drop (i + 1)) = I by omega)
        clear hn hr
        go_wp2
        go_roundw
        case rel => exact ⟨i + 1, by go_num, by omega, by omega, HN2, trivial⟩
        case measure => simp [RowKit.intOf]; omega
      · rw [if_neg hr, Nat.add_zero] at hn
        subst hn
        have hz := HZ.out
        rw [if_neg (by omega), hgd] at hz
        have e1 : ((i : Int) == (s.size : Int)) = false := beq_eq_false_iff_ne.2 (by omega)
        have hcond : (decide ((32 : Int) ≤ (s[i].toNat : Int)) = false) ∨ (decide ((32 : Int) ≤ (s[i].toNat : Int)) = true ∧ decide ((s[i].toNat : Int) ≤ 63) = false) := by
          by_cases h : 32 ≤ s[i].toNat
          · exact .inr ⟨decide_eq_true (by omega), decide_eq_false (by omega)⟩
          · exact .inl (decide_eq_false (by omega))
        obtain ⟨x, hx⟩ : ∃ x, s[i].toNat = x := ⟨_, rfl⟩
        have hx8 : x < 256 := by rw [← hx]; exact s[i].toNat_lt
        rw [hx] at hz hcond
        have C := HCL.out x
        have HX := hid hx
        clear hr hgd HN HI
        by_cases hin : 64 ≤ x ∧ x ≤ 126
        · rw [if_pos hin] at hz
          obtain ⟨y1, y2⟩ := hin
          have z1 : decide ((x : Int) < 64) = false := decide_eq_false (by omega)
          have z2 : decide ((126 : Int) < (x : Int)) = false := decide_eq_false (by omega)
          have HZ2 := hid hz
          clear hz y1 y2
          rcases hcond with h | ⟨h, h'⟩
          all_goals
            go_wp2
            obtain ⟨k, hk⟩ : ∃ k, listedL ((s.data.toList.take i).drop 2) x = k := ⟨_, rfl⟩
            rw [hk] at C HZ2
            have h2i : (2 : Int) ≤ (i : Int) := by omega
            have hwr : IntKind.i64.wrap ((i : Int) + 1) = (i : Int) + 1 := IntWalk.i64_in _ (by omega)
            have hR : ∃ a b, Box2 (w.alloc (.cells #[.string { data := #[] }, .int .u8 0] 31)) w.heap.size a b := ⟨_, 0, box_new w _ 0⟩
            refine region_monoS 10 [[], [], [0, 1], [], [], [3, 4], [2, 5], [], [7], [6]] (StE w.heap.size ⟨k.nm.toArray⟩ k.md) (pick [IsV (.string s), IsV (.int .i64 (i : Int)), IsV (.string (s.extract 2 i)), IsV (.string s), IsV (.int .i64 (i : Int)), IsV (.int .u8 (s[i].toNat : Int)), IsV (kyV k), IsV (.int .i64 (i : Int)), IsV (.int .i64 ((i : Int) + 1)), BoxV w.heap.size ⟨k.nm.toArray⟩ k.md]) mixed (by kernel_rfl) (by simp [noSlot]) (StE.of_below (Below.refl _ _).drew) (fun _ _ _ => StE.trans) (pick_stableE ?_) ?_ ?_
            · simp only [List.mem_cons, List.not_mem_nil, or_false, forall_eq_or_imp, forall_eq]
              exact ⟨fun _ _ _ h _ => h, fun _ _ _ h _ => h, fun _ _ _ h _ => h, fun _ _ _ h _ => h, fun _ _ _ h _ => h, fun _ _ _ h _ => h, fun _ _ _ h _ => h, fun _ _ _ h _ => h, fun _ _ _ h _ => h, fun _ _ _ h he => he.done h⟩
            · simp only [List.take_succ_cons, List.take_zero, MonoObS, DepS, dsS, List.map_cons, List.map_nil]
              refine ⟨?_, ?_, ?_, ?_, ?_, ?_, ?_, ?_, ?_, ?_, trivial⟩
              all_goals simp [go_sem, upon2, pick, IsV, BoxV, kyV, noSlot, his, hl, h2i]
              all_goals intro w1 hw1
              · exact StE.of_below (Below.refl _ _)
              · exact StE.of_below (Below.refl _ _)
              · exact StE.of_below (Below.refl _ _)
              · exact StE.of_below (Below.refl _ _)
              · exact StE.of_below (Below.refl _ _)
              · exact StE.of_below (Below.refl _ _)
              · rw [hx, ba_sub]
                have C1 := C w1 (below_turn hB1 (by simp) hw1.t (fun j hj e => by omega))
                with_reducible refine Calls.mono C1 ?_
                rintro e w2 ⟨he, hb⟩
                exact ⟨_, he, rfl, StE.of_below hb⟩
              · exact StE.of_below (Below.refl _ _)
              · exact ⟨hwr, StE.of_below (Below.refl _ _)⟩
              · obtain ⟨a, b, bx⟩ := hw1.alive hR
                obtain ⟨c0, c1, f0, f1⟩ := bx
                simp [go_sem, c0, c1, f0, f1]
                exact ⟨Box2.store ⟨c0, c1, f0, f1⟩ _ _, StE.store ⟨a, b, c0, c1, f0, f1⟩⟩
            · intro w4 hb4
              simp only [show List.range 10 = [0, 1, 2, 3, 4, 5, 6, 7, 8, 9] from rfl, DepS, dsS, List.map_cons, List.map_nil, List.take_succ_cons, List.take_zero]
              simp only [pick, IsV, BoxV, noSlot, List.getD_cons_succ, List.getD_cons_zero, Option.getD_some, Option.getD_none, Nat.reduceEqDiff, reduceIte]
              rintro _ rfl _ rfl _ rfl _ rfl _ rfl _ rfl _ rfl _ rfl _ rfl _ bxe
              have hB4 := below_turn hB1 (by simp) hb4.t (fun j hj e => by omega)
              obtain ⟨c0, c1, c2, c3⟩ := bxe

              simp only [List.getD_cons_succ, List.getD_cons_zero, List.drop_succ_cons, List.drop_zero]
              go_wp2
              refine bodyPost_ret (v := .tuple #[.agg #[.string ⟨k.nm.toArray⟩, .int .u8 (k.md : Int)], .int .i64 ((i : Int) + 1)]) (by simp [results, Tryd.results34, go_sem, *]) rfl ⟨by rw [HZ2.out]; rfl, by (repeat first | with_reducible exact hB4 | refine Below.setCell ?_ (by first | exact Nat.le_refl _ | (simp; omega)) _ | refine Below.alloc ?_ (by simp; omega) _)⟩
        · rw [if_neg hin] at hz
          have HZ2 := hid hz
          have hc2 : (decide ((x : Int) < 64) = true) ∨ (decide ((x : Int) < 64) = false ∧ decide ((126 : Int) < (x : Int)) = true) := by
            by_cases h : x < 64
            · exact .inl (decide_eq_true (by omega))
            · exact .inr ⟨decide_eq_false (by omega), decide_eq_true (by omega)⟩
          clear hz hin
          rcases hcond with h | ⟨h, h'⟩
          all_goals
            rcases hc2 with k | ⟨k, k'⟩
          all_goals
            go_wp2
            refine bodyPost_ret (v := .tuple #[.agg #[.string { data := #[] }, .int .u8 0], .int .i64 (i : Int)]) (by simp [results, Tryd.results34, go_sem, *]) rfl ⟨by rw [HZ2.out]; rfl, by (repeat first | with_reducible exact hB1 | refine Below.setCell ?_ (by first | exact Nat.le_refl _ | (simp; omega)) _ | refine Below.alloc ?_ (by simp; omega) _)⟩
    · have i1 : ¬ ((i : Int) < (s.size : Int)) := by omega
      have i2 : decide ((i : Int) < (s.size : Int)) = false := decide_eq_false i1
      have i3 : decide (i < s.size) = false := decide_eq_false hl
      have e1 : ((i : Int) == (s.size : Int)) = true := beq_iff_eq.2 (by omega)
      rw [List.drop_of_length_le (by rw [ba_len]; omega)] at hn
      have hz := HZ.out
      rw [if_pos (by rw [← hn]; show i + 0 = _; omega)] at hz
      have HZ2 := hid hz
      clear hn hz
      go_wp2
      refine bodyPost_ret (v := .tuple #[.agg #[.string { data := #[] }, .int .u8 0], .int .i64 0]) (by simp [results, Tryd.results34, go_sem, *]) rfl ⟨by rw [HZ2.out]; rfl, by (repeat first | with_reducible exact hB1 | refine Below.setCell ?_ (by first | exact Nat.le_refl _ | (simp; omega)) _ | refine Below.alloc ?_ (by simp; omega) _)⟩
end Go.Proofs.YtddigbhijfpmkaaDoor
