/- Layer 5: the walk of style.Under. (Printed by gen_e.py.) -/
import Derived.Test.YtoiondgcjbdonaaDoorStR
import Derived.Deep.DeepCutAuto
namespace Go.Proofs.YtoiondgcjbdonaaDoor
set_option linter.unusedVariables false
set_option linter.unusedSimpArgs false
set_option maxRecDepth 100000
open Go.RowKit Go.Lib

theorem blk3_7 (w : World) (A B C D E F G : Obj) : ((((((((w.alloc A).alloc B).alloc C).alloc D).alloc E).alloc F).alloc G)).heap[w.heap.size + 1 + 1]? = some C := by
  rw [heap_alloc_old _ _ (by simp), heap_alloc_old _ _ (by simp), heap_alloc_old _ _ (by simp), heap_alloc_old _ _ (by simp)]
  have h := heap_alloc_new ((w.alloc A).alloc B) C
  simpa using h

set_option maxHeartbeats 8000000 in
set_option maxRecDepth 100000 in
theorem under_any (a b : Lk) (ha : a.has < 256) (hb : b.has < 256) (w : World) : Calls Tryd.prog 22 #[lkV a, lkV b] w fun e w' => e = .returned (lkV (underL a b)) ∧ Below w.heap.size w w' := by
  have hx := has8 ha hb
  rw [← under_has] at hx
  obtain ⟨v, hv⟩ : ∃ v : Lk, v = ⟨0, if tl b.has 1 then b.col else Cl.zero, if tl b.has 2 then b.bak else Cl.zero, if tl b.has 4 then b.brd else false, if tl b.has 8 then b.pad else 0⟩ := ⟨_, rfl⟩
  have g1 : v.col = if tl b.has 1 then b.col else Cl.zero := by rw [hv]
  have f1 := hid g1
  have g2 : v.bak = if tl b.has 2 then b.bak else Cl.zero := by rw [hv]
  have f2 := hid g2
  have g3 : v.brd = if tl b.has 4 then b.brd else false := by rw [hv]
  have f3 := hid g3
  have g4 : v.pad = if tl b.has 8 then b.pad else 0 := by rw [hv]
  have f4 := hid g4
  have k1 : (underL a b).col = if tl a.has 1 then a.col else v.col := by rw [g1]; rfl
  have f5 := hid k1
  have k2 : (underL a b).bak = if tl a.has 2 then a.bak else v.bak := by rw [g2]; rfl
  have f6 := hid k2
  have k3 : (underL a b).brd = if tl a.has 4 then a.brd else v.brd := by rw [g3]; rfl
  have f7 := hid k3
  have k4 : (underL a b).pad = if tl a.has 8 then a.pad else v.pad := by rw [g4]; rfl
  have f8 := hid k4
  clear hv g1 g2 g3 g4 k1 k2 k3 k4
  generalize underL a b = u at *
  unfold lkV
  go_enter Tryd.func22, Tryd.ntmps22
  go_wp2
  refine wp_loop_rounds 3 ?_
  rw [rounds_succ]
  go_upto_if 26 with fail
  go_cut [] from 23 to 50 (fun wx => wx = ((((((w.alloc (.cells #[.int .u8 (a.has : Int), .int .u8 (a.col.r : Int), .int .u8 (a.col.g : Int), .int .u8 (a.col.b : Int), .int .u8 (a.col.a : Int), .int .u8 (a.bak.r : Int), .int .u8 (a.bak.g : Int), .int .u8 (a.bak.b : Int), .int .u8 (a.bak.a : Int), .bool a.brd, .int .i64 a.pad] 32)).alloc (.cells #[.int .u8 (b.has : Int), .int .u8 (b.col.r : Int), .int .u8 (b.col.g : Int), .int .u8 (b.col.b : Int), .int .u8 (b.col.a : Int), .int .u8 (b.bak.r : Int), .int .u8 (b.bak.g : Int), .int .u8 (b.bak.b : Int), .int .u8 (b.bak.a : Int), .bool b.brd, .int .i64 b.pad] 32)).alloc (.cells #[.int .u8 0, .int .u8 0, .int .u8 0, .int .u8 0, .int .u8 0, .int .u8 0, .int .u8 0, .int .u8 0, .int .u8 0, .bool false, .int .i64 0] 32)).alloc (.cells #[.int .u8 (u.has : Int), .int .u8 (v.col.r : Int), .int .u8 (v.col.g : Int), .int .u8 (v.col.b : Int), .int .u8 (v.col.a : Int), .int .u8 0, .int .u8 0, .int .u8 0, .int .u8 0, .bool false, .int .i64 0] 32)).alloc (.cells #[.int .u8 (b.has : Int), .int .u8 (b.col.r : Int), .int .u8 (b.col.g : Int), .int .u8 (b.col.b : Int), .int .u8 (b.col.a : Int), .int .u8 (b.bak.r : Int), .int .u8 (b.bak.g : Int), .int .u8 (b.bak.b : Int), .int .u8 (b.bak.a : Int), .bool b.brd, .int .i64 b.pad, .int .u8 (a.has : Int), .int .u8 (a.col.r : Int), .int .u8 (a.col.g : Int), .int .u8 (a.col.b : Int), .int .u8 (a.col.a : Int), .int .u8 (a.bak.r : Int), .int .u8 (a.bak.g : Int), .int .u8 (a.bak.b : Int), .int .u8 (a.bak.a : Int), .bool a.brd, .int .i64 a.pad] 32)).alloc (.cells #[.int .u8 (b.has : Int), .int .u8 (b.col.r : Int), .int .u8 (b.col.g : Int), .int .u8 (b.col.b : Int), .int .u8 (b.col.a : Int), .int .u8 (b.bak.r : Int), .int .u8 (b.bak.g : Int), .int .u8 (b.bak.b : Int), .int .u8 (b.bak.a : Int), .bool b.brd, .int .i64 b.pad] 32)))
  case first =>
    clear f2 f3 f4 f5 f6 f7 f8
    have F := f1.out
    clear f1
    cases h1 : tl b.has 1 with
    | true =>
      rw [h1] at F
      have F := hid F
      unfold tl at h1
      go_wp2_with fail
      go_meet
      rw [F.out]; rfl
    | false =>
      rw [h1] at F
      have F := hid F
      unfold tl at h1
      go_wp2_with fail
      go_meet
      rw [F.out]; rfl
  case rest =>
    subst hcut
    clear f1
    go_upto_if 33 with fail
    go_cut [] from 23 to 50 (fun wx => wx = ((((((w.alloc (.cells #[.int .u8 (a.has : Int), .int .u8 (a.col.r : Int), .int .u8 (a.col.g : Int), .int .u8 (a.col.b : Int), .int .u8 (a.col.a : Int), .int .u8 (a.bak.r : Int), .int .u8 (a.bak.g : Int), .int .u8 (a.bak.b : Int), .int .u8 (a.bak.a : Int), .bool a.brd, .int .i64 a.pad] 32)).alloc (.cells #[.int .u8 (b.has : Int), .int .u8 (b.col.r : Int), .int .u8 (b.col.g : Int), .int .u8 (b.col.b : Int), .int .u8 (b.col.a : Int), .int .u8 (b.bak.r : Int), .int .u8 (b.bak.g : Int), .int .u8 (b.bak.b : Int), .int .u8 (b.bak.a : Int), .bool b.brd, .int .i64 b.pad] 32)).alloc (.cells #[.int .u8 0, .int .u8 0, .int .u8 0, .int .u8 0, .int .u8 0, .int .u8 0, .int .u8 0, .int .u8 0, .int .u8 0, .bool false, .int .i64 0] 32)).alloc (.cells #[.int .u8 (u.has : Int), .int .u8 (v.col.r : Int), .int .u8 (v.col.g : Int), .int .u8 (v.col.b : Int), .int .u8 (v.col.a : Int), .int .u8 (v.bak.r : Int), .int .u8 (v.bak.g : Int), .int .u8 (v.bak.b : Int), .int .u8 (v.bak.a : Int), .bool false, .int .i64 0] 32)).alloc (.cells #[.int .u8 (b.has : Int), .int .u8 (b.col.r : Int), .int .u8 (b.col.g : Int), .int .u8 (b.col.b : Int), .int .u8 (b.col.a : Int), .int .u8 (b.bak.r : Int), .int .u8 (b.bak.g : Int), .int .u8 (b.bak.b : Int), .int .u8 (b.bak.a : Int), .bool b.brd, .int .i64 b.pad, .int .u8 (a.has : Int), .int .u8 (a.col.r : Int), .int .u8 (a.col.g : Int), .int .u8 (a.col.b : Int), .int .u8 (a.col.a : Int), .int .u8 (a.bak.r : Int), .int .u8 (a.bak.g : Int), .int .u8 (a.bak.b : Int), .int .u8 (a.bak.a : Int), .bool a.brd, .int .i64 a.pad] 32)).alloc (.cells #[.int .u8 (b.has : Int), .int .u8 (b.col.r : Int), .int .u8 (b.col.g : Int), .int .u8 (b.col.b : Int), .int .u8 (b.col.a : Int), .int .u8 (b.bak.r : Int), .int .u8 (b.bak.g : Int), .int .u8 (b.bak.b : Int), .int .u8 (b.bak.a : Int), .bool b.brd, .int .i64 b.pad] 32)))
    case first =>
      clear f3 f4 f5 f6 f7 f8
      have F := f2.out
      clear f2
      cases h1 : tl b.has 2 with
      | true =>
        rw [h1] at F
        have F := hid F
        unfold tl at h1
        go_wp2_with fail
        go_meet
        rw [F.out]; rfl
      | false =>
        rw [h1] at F
        have F := hid F
        unfold tl at h1
        go_wp2_with fail
        go_meet
        rw [F.out]; rfl
    case rest =>
      subst hcut
      clear f2
      go_upto_if 40 with fail
      go_cut [] from 23 to 50 (fun wx => wx = ((((((w.alloc (.cells #[.int .u8 (a.has : Int), .int .u8 (a.col.r : Int), .int .u8 (a.col.g : Int), .int .u8 (a.col.b : Int), .int .u8 (a.col.a : Int), .int .u8 (a.bak.r : Int), .int .u8 (a.bak.g : Int), .int .u8 (a.bak.b : Int), .int .u8 (a.bak.a : Int), .bool a.brd, .int .i64 a.pad] 32)).alloc (.cells #[.int .u8 (b.has : Int), .int .u8 (b.col.r : Int), .int .u8 (b.col.g : Int), .int .u8 (b.col.b : Int), .int .u8 (b.col.a : Int), .int .u8 (b.bak.r : Int), .int .u8 (b.bak.g : Int), .int .u8 (b.bak.b : Int), .int .u8 (b.bak.a : Int), .bool b.brd, .int .i64 b.pad] 32)).alloc (.cells #[.int .u8 0, .int .u8 0, .int .u8 0, .int .u8 0, .int .u8 0, .int .u8 0, .int .u8 0, .int .u8 0, .int .u8 0, .bool false, .int .i64 0] 32)).alloc (.cells #[.int .u8 (u.has : Int), .int .u8 (v.col.r : Int), .int .u8 (v.col.g : Int), .int .u8 (v.col.b : Int), .int .u8 (v.col.a : Int), .int .u8 (v.bak.r : Int), .int .u8 (v.bak.g : Int), .int .u8 (v.bak.b : Int), .int .u8 (v.bak.a : Int), .bool v.brd, .int .i64 0] 32)).alloc (.cells #[.int .u8 (b.has : Int), .int .u8 (b.col.r : Int), .int .u8 (b.col.g : Int), .int .u8 (b.col.b : Int), .int .u8 (b.col.a : Int), .int .u8 (b.bak.r : Int), .int .u8 (b.bak.g : Int), .int .u8 (b.bak.b : Int), .int .u8 (b.bak.a : Int), .bool b.brd, .int .i64 b.pad, .int .u8 (a.has : Int), .int .u8 (a.col.r : Int), .int .u8 (a.col.g : Int), .int .u8 (a.col.b : Int), .int .u8 (a.col.a : Int), .int .u8 (a.bak.r : Int), .int .u8 (a.bak.g : Int), .int .u8 (a.bak.b : Int), .int .u8 (a.bak.a : Int), .bool a.brd, .int .i64 a.pad] 32)).alloc (.cells #[.int .u8 (b.has : Int), .int .u8 (b.col.r : Int), .int .u8 (b.col.g : Int), .int .u8 (b.col.b : Int), .int .u8 (b.col.a : Int), .int .u8 (b.bak.r : Int), .int .u8 (b.bak.g : Int), .int .u8 (b.bak.b : Int), .int .u8 (b.bak.a : Int), .bool b.brd, .int .i64 b.pad] 32)))
      case first =>
        clear f4 f5 f6 f7 f8
        have F := f3.out
        clear f3
        cases h1 : tl b.has 4 with
        | true =>
          rw [h1] at F
          have F := hid F
          unfold tl at h1
          go_wp2_with fail
          go_meet
          rw [F.out]; rfl
        | false =>
          rw [h1] at F
          have F := hid F
          unfold tl at h1
          go_wp2_with fail
          go_meet
          rw [F.out]; rfl
      case rest =>
        subst hcut
        clear f3
        have F := f4.out
        clear f4
        cases h4 : tl b.has 8
        all_goals
          rw [h4] at F
          have F4 := hid F
          clear F
          unfold tl at h4
          go_wp2_with fail
          rw [rounds_succ]
          go_upto_if 26 with fail
          go_cut [] from 23 to 50 (fun wx => wx = (((((((w.alloc (.cells #[.int .u8 (a.has : Int), .int .u8 (a.col.r : Int), .int .u8 (a.col.g : Int), .int .u8 (a.col.b : Int), .int .u8 (a.col.a : Int), .int .u8 (a.bak.r : Int), .int .u8 (a.bak.g : Int), .int .u8 (a.bak.b : Int), .int .u8 (a.bak.a : Int), .bool a.brd, .int .i64 a.pad] 32)).alloc (.cells #[.int .u8 (b.has : Int), .int .u8 (b.col.r : Int), .int .u8 (b.col.g : Int), .int .u8 (b.col.b : Int), .int .u8 (b.col.a : Int), .int .u8 (b.bak.r : Int), .int .u8 (b.bak.g : Int), .int .u8 (b.bak.b : Int), .int .u8 (b.bak.a : Int), .bool b.brd, .int .i64 b.pad] 32)).alloc (.cells #[.int .u8 0, .int .u8 0, .int .u8 0, .int .u8 0, .int .u8 0, .int .u8 0, .int .u8 0, .int .u8 0, .int .u8 0, .bool false, .int .i64 0] 32)).alloc (.cells #[.int .u8 (u.has : Int), .int .u8 (u.col.r : Int), .int .u8 (u.col.g : Int), .int .u8 (u.col.b : Int), .int .u8 (u.col.a : Int), .int .u8 (v.bak.r : Int), .int .u8 (v.bak.g : Int), .int .u8 (v.bak.b : Int), .int .u8 (v.bak.a : Int), .bool v.brd, .int .i64 v.pad] 32)).alloc (.cells #[.int .u8 (b.has : Int), .int .u8 (b.col.r : Int), .int .u8 (b.col.g : Int), .int .u8 (b.col.b : Int), .int .u8 (b.col.a : Int), .int .u8 (b.bak.r : Int), .int .u8 (b.bak.g : Int), .int .u8 (b.bak.b : Int), .int .u8 (b.bak.a : Int), .bool b.brd, .int .i64 b.pad, .int .u8 (a.has : Int), .int .u8 (a.col.r : Int), .int .u8 (a.col.g : Int), .int .u8 (a.col.b : Int), .int .u8 (a.col.a : Int), .int .u8 (a.bak.r : Int), .int .u8 (a.bak.g : Int), .int .u8 (a.bak.b : Int), .int .u8 (a.bak.a : Int), .bool a.brd, .int .i64 a.pad] 32)).alloc (.cells #[.int .u8 (b.has : Int), .int .u8 (b.col.r : Int), .int .u8 (b.col.g : Int), .int .u8 (b.col.b : Int), .int .u8 (b.col.a : Int), .int .u8 (b.bak.r : Int), .int .u8 (b.bak.g : Int), .int .u8 (b.bak.b : Int), .int .u8 (b.bak.a : Int), .bool b.brd, .int .i64 b.pad] 32)).alloc (.cells #[.int .u8 (a.has : Int), .int .u8 (a.col.r : Int), .int .u8 (a.col.g : Int), .int .u8 (a.col.b : Int), .int .u8 (a.col.a : Int), .int .u8 (a.bak.r : Int), .int .u8 (a.bak.g : Int), .int .u8 (a.bak.b : Int), .int .u8 (a.bak.a : Int), .bool a.brd, .int .i64 a.pad] 32)))
          case first =>
            clear f6 f7 f8
            have F := f5.out
            clear f5
            cases h1 : tl a.has 1 with
            | true =>
              rw [h1] at F
              have F := hid F
              unfold tl at h1
              go_wp2_with fail
              go_meet
              rw [F.out, F4.out]; rfl
            | false =>
              rw [h1] at F
              have F := hid F
              unfold tl at h1
              go_wp2_with fail
              go_meet
              rw [F.out, F4.out]; rfl
          case rest =>
            subst hcut
            clear f5
            go_upto_if 33 with fail
            go_cut [] from 23 to 50 (fun wx => wx = (((((((w.alloc (.cells #[.int .u8 (a.has : Int), .int .u8 (a.col.r : Int), .int .u8 (a.col.g : Int), .int .u8 (a.col.b : Int), .int .u8 (a.col.a : Int), .int .u8 (a.bak.r : Int), .int .u8 (a.bak.g : Int), .int .u8 (a.bak.b : Int), .int .u8 (a.bak.a : Int), .bool a.brd, .int .i64 a.pad] 32)).alloc (.cells #[.int .u8 (b.has : Int), .int .u8 (b.col.r : Int), .int .u8 (b.col.g : Int), .int .u8 (b.col.b : Int), .int .u8 (b.col.a : Int), .int .u8 (b.bak.r : Int), .int .u8 (b.bak.g : Int), .int .u8 (b.bak.b : Int), .int .u8 (b.bak.a : Int), .bool b.brd, .int .i64 b.pad] 32)).alloc (.cells #[.int .u8 0, .int .u8 0, .int .u8 0, .int .u8 0, .int .u8 0, .int .u8 0, .int .u8 0, .int .u8 0, .int .u8 0, .bool false, .int .i64 0] 32)).alloc (.cells #[.int .u8 (u.has : Int), .int .u8 (u.col.r : Int), .int .u8 (u.col.g : Int), .int .u8 (u.col.b : Int), .int .u8 (u.col.a : Int), .int .u8 (u.bak.r : Int), .int .u8 (u.bak.g : Int), .int .u8 (u.bak.b : Int), .int .u8 (u.bak.a : Int), .bool v.brd, .int .i64 v.pad] 32)).alloc (.cells #[.int .u8 (b.has : Int), .int .u8 (b.col.r : Int), .int .u8 (b.col.g : Int), .int .u8 (b.col.b : Int), .int .u8 (b.col.a : Int), .int .u8 (b.bak.r : Int), .int .u8 (b.bak.g : Int), .int .u8 (b.bak.b : Int), .int .u8 (b.bak.a : Int), .bool b.brd, .int .i64 b.pad, .int .u8 (a.has : Int), .int .u8 (a.col.r : Int), .int .u8 (a.col.g : Int), .int .u8 (a.col.b : Int), .int .u8 (a.col.a : Int), .int .u8 (a.bak.r : Int), .int .u8 (a.bak.g : Int), .int .u8 (a.bak.b : Int), .int .u8 (a.bak.a : Int), .bool a.brd, .int .i64 a.pad] 32)).alloc (.cells #[.int .u8 (b.has : Int), .int .u8 (b.col.r : Int), .int .u8 (b.col.g : Int), .int .u8 (b.col.b : Int), .int .u8 (b.col.a : Int), .int .u8 (b.bak.r : Int), .int .u8 (b.bak.g : Int), .int .u8 (b.bak.b : Int), .int .u8 (b.bak.a : Int), .bool b.brd, .int .i64 b.pad] 32)).alloc (.cells #[.int .u8 (a.has : Int), .int .u8 (a.col.r : Int), .int .u8 (a.col.g : Int), .int .u8 (a.col.b : Int), .int .u8 (a.col.a : Int), .int .u8 (a.bak.r : Int), .int .u8 (a.bak.g : Int), .int .u8 (a.bak.b : Int), .int .u8 (a.bak.a : Int), .bool a.brd, .int .i64 a.pad] 32)))
            case first =>
              clear f7 f8
              have F := f6.out
              clear f6
              cases h1 : tl a.has 2 with
              | true =>
                rw [h1] at F
                have F := hid F
                unfold tl at h1
                go_wp2_with fail
                go_meet
                rw [F.out]; rfl
              | false =>
                rw [h1] at F
                have F := hid F
                unfold tl at h1
                go_wp2_with fail
                go_meet
                rw [F.out]; rfl
            case rest =>
              subst hcut
              clear f6
              go_upto_if 40 with fail
              go_cut [] from 23 to 50 (fun wx => wx = (((((((w.alloc (.cells #[.int .u8 (a.has : Int), .int .u8 (a.col.r : Int), .int .u8 (a.col.g : Int), .int .u8 (a.col.b : Int), .int .u8 (a.col.a : Int), .int .u8 (a.bak.r : Int), .int .u8 (a.bak.g : Int), .int .u8 (a.bak.b : Int), .int .u8 (a.bak.a : Int), .bool a.brd, .int .i64 a.pad] 32)).alloc (.cells #[.int .u8 (b.has : Int), .int .u8 (b.col.r : Int), .int .u8 (b.col.g : Int), .int .u8 (b.col.b : Int), .int .u8 (b.col.a : Int), .int .u8 (b.bak.r : Int), .int .u8 (b.bak.g : Int), .int .u8 (b.bak.b : Int), .int .u8 (b.bak.a : Int), .bool b.brd, .int .i64 b.pad] 32)).alloc (.cells #[.int .u8 0, .int .u8 0, .int .u8 0, .int .u8 0, .int .u8 0, .int .u8 0, .int .u8 0, .int .u8 0, .int .u8 0, .bool false, .int .i64 0] 32)).alloc (.cells #[.int .u8 (u.has : Int), .int .u8 (u.col.r : Int), .int .u8 (u.col.g : Int), .int .u8 (u.col.b : Int), .int .u8 (u.col.a : Int), .int .u8 (u.bak.r : Int), .int .u8 (u.bak.g : Int), .int .u8 (u.bak.b : Int), .int .u8 (u.bak.a : Int), .bool u.brd, .int .i64 v.pad] 32)).alloc (.cells #[.int .u8 (b.has : Int), .int .u8 (b.col.r : Int), .int .u8 (b.col.g : Int), .int .u8 (b.col.b : Int), .int .u8 (b.col.a : Int), .int .u8 (b.bak.r : Int), .int .u8 (b.bak.g : Int), .int .u8 (b.bak.b : Int), .int .u8 (b.bak.a : Int), .bool b.brd, .int .i64 b.pad, .int .u8 (a.has : Int), .int .u8 (a.col.r : Int), .int .u8 (a.col.g : Int), .int .u8 (a.col.b : Int), .int .u8 (a.col.a : Int), .int .u8 (a.bak.r : Int), .int .u8 (a.bak.g : Int), .int .u8 (a.bak.b : Int), .int .u8 (a.bak.a : Int), .bool a.brd, .int .i64 a.pad] 32)).alloc (.cells #[.int .u8 (b.has : Int), .int .u8 (b.col.r : Int), .int .u8 (b.col.g : Int), .int .u8 (b.col.b : Int), .int .u8 (b.col.a : Int), .int .u8 (b.bak.r : Int), .int .u8 (b.bak.g : Int), .int .u8 (b.bak.b : Int), .int .u8 (b.bak.a : Int), .bool b.brd, .int .i64 b.pad] 32)).alloc (.cells #[.int .u8 (a.has : Int), .int .u8 (a.col.r : Int), .int .u8 (a.col.g : Int), .int .u8 (a.col.b : Int), .int .u8 (a.col.a : Int), .int .u8 (a.bak.r : Int), .int .u8 (a.bak.g : Int), .int .u8 (a.bak.b : Int), .int .u8 (a.bak.a : Int), .bool a.brd, .int .i64 a.pad] 32)))
              case first =>
                clear f8
                have F := f7.out
                clear f7
                cases h1 : tl a.has 4 with
                | true =>
                  rw [h1] at F
                  have F := hid F
                  unfold tl at h1
                  go_wp2_with fail
                  go_meet
                  rw [F.out]; rfl
                | false =>
                  rw [h1] at F
                  have F := hid F
                  unfold tl at h1
                  go_wp2_with fail
                  go_meet
                  rw [F.out]; rfl
              case rest =>
                subst hcut
                clear f7
                have F := f8.out
                clear f8
                cases h8 : tl a.has 8
                all_goals
                  rw [h8] at F
                  have F8 := hid F
                  clear F
                  unfold tl at h8
                  go_wp2_with fail
                  rw [rounds_succ]
                  go_wp2
                  refine bodyPost_ret (res_look rfl _ _ (w.heap.size + 1 + 1) u rfl ?hg) rfl ⟨rfl, ?hb⟩
                  case hb => exact (by repeat (first | exact Below.refl _ _ | with_reducible refine Below.alloc ?_ (by first | (simp; done) | (simp; omega) | omega) _ | with_reducible refine Below.setCell ?_ (by first | (simp; done) | (simp; omega) | omega) _ | with_reducible refine Below.drew ?_ | with_reducible refine Below.trans ?_ (Below.mono (by assumption) (by first | (simp; done) | (simp; omega) | omega))))
                  case hg => rw [blk3_7, F8.out]; rfl
end Go.Proofs.YtoiondgcjbdonaaDoor
