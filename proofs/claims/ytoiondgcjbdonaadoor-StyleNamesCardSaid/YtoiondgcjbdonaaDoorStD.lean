/- Layer 5: looks: what lies beneath one, may it be: the program's and the reference's. -/
import Derived.Test.YtoiondgcjbdonaaDoorStA
import Derived.Test.YtoiondgcjbdonaaDoorMem
import Derived.Laws.BitsAllLaws
import Derived.Deep.DeepCutAuto
namespace Go.Proofs.YtoiondgcjbdonaaDoor
set_option linter.unusedVariables false
set_option linter.unusedSimpArgs false
set_option maxRecDepth 100000
open Go.RowKit Go.Shelf Go.Lib

/-- A colour. -/
structure Cl where
  r : Nat
  g : Nat
  b : Nat
  a : Nat
deriving DecidableEq
/-- A look. -/
structure Lk where
  has : Nat
  col : Cl
  bak : Cl
  brd : Bool
  pad : Int
deriving DecidableEq
def Cl.zero : Cl := ⟨0, 0, 0, 0⟩
def Lk.none : Lk := ⟨0, Cl.zero, Cl.zero, false, 0⟩
def Cl.In (c : Cl) : Prop := c.r < 256 ∧ c.g < 256 ∧ c.b < 256 ∧ c.a < 256
def Lk.In (x : Lk) : Prop := x.has < 256 ∧ x.col.In ∧ x.bak.In
/-- A look's cells. -/
def lkC (x : Lk) : List Value := [.int .u8 (x.has : Int), .int .u8 (x.col.r : Int), .int .u8 (x.col.g : Int), .int .u8 (x.col.b : Int), .int .u8 (x.col.a : Int), .int .u8 (x.bak.r : Int), .int .u8 (x.bak.g : Int), .int .u8 (x.bak.b : Int), .int .u8 (x.bak.a : Int), .bool x.brd, .int .i64 x.pad]
def lkV (x : Lk) : Value := .agg #[.int .u8 (x.has : Int), .int .u8 (x.col.r : Int), .int .u8 (x.col.g : Int), .int .u8 (x.col.b : Int), .int .u8 (x.col.a : Int), .int .u8 (x.bak.r : Int), .int .u8 (x.bak.g : Int), .int .u8 (x.bak.b : Int), .int .u8 (x.bak.a : Int), .bool x.brd, .int .i64 x.pad]
/-- Is a bit set? -/
def tl (h : Nat) (k : Int) : Bool := bits .and .u8 (h : Int) k != 0
def underL (a b : Lk) : Lk where
  has := (a.has ||| b.has) % 16
  col := if tl a.has 1 then a.col else if tl b.has 1 then b.col else Cl.zero
  bak := if tl a.has 2 then a.bak else if tl b.has 2 then b.bak else Cl.zero
  brd := if tl a.has 4 then a.brd else if tl b.has 4 then b.brd else false
  pad := if tl a.has 8 then a.pad else if tl b.has 8 then b.pad else 0

theorem wrap8 (n : Nat) (h : n < 256) : IntKind.u8.wrap (n : Int) = (n : Int) := by
  simp [IntKind.wrap, IntKind.bits, IntKind.signed]
  omega
theorem and8 (c m : Nat) (hc : c < 256) (hm : m < 256) : bits .and .u8 (c : Int) (m : Int) = ((c &&& m : Nat) : Int) := by
  show IntKind.u8.wrap ((BitVec.ofInt 8 c &&& BitVec.ofInt 8 m).toNat : Int) = _
  rw [wrap8 _ (BitVec.isLt _), BitVec.toNat_and]
  congr 2
  · simp; omega
  · simp; omega
theorem or8 (c m : Nat) (hc : c < 256) (hm : m < 256) : bits .or .u8 (c : Int) (m : Int) = ((c ||| m : Nat) : Int) := by
  show IntKind.u8.wrap ((BitVec.ofInt 8 c ||| BitVec.ofInt 8 m).toNat : Int) = _
  rw [wrap8 _ (BitVec.isLt _), BitVec.toNat_or]
  congr 2
  · simp; omega
  · simp; omega
theorem or_lt8 {c m : Nat} (hc : c < 256) (hm : m < 256) : c ||| m < 256 := Nat.or_lt_two_pow (n := 8) hc hm
theorem has8 {c m : Nat} (hc : c < 256) (hm : m < 256) : bits .and .u8 (bits .or .u8 (c : Int) (m : Int)) 15 = (((c ||| m) % 16 : Nat) : Int) := by
  rw [or8 c m hc hm]
  have h := and8 (c ||| m) 15 (or_lt8 hc hm) (by omega)
  rw [show (15 : Nat) = 2 ^ 4 - 1 by rfl, Nat.and_two_pow_sub_one_eq_mod] at h
  exact h
theorem blk3_4 (w : World) (A B C D : Obj) : ((((w.alloc A).alloc B).alloc C).alloc D).heap[w.heap.size + 1 + 1]? = some C := by
  have h := heap_alloc_new ((w.alloc A).alloc B) C
  have e : ((w.alloc A).alloc B).heap.size = w.heap.size + 1 + 1 := by simp
  rw [e] at h
  show ((((w.alloc A).alloc B).alloc C).heap.push D)[w.heap.size + 1 + 1]? = some C
  rw [Array.getElem?_push, if_neg (by simp)]
  exact h
theorem res_look {fn : Func} {p : Tmp} (h : fn.results = #[.cell p 32]) (tmps : Array Value) (w : World) (g : Nat) (x : Lk)
    (hp : tmps.getD p undef = .pointer (some ⟨g, 0, none⟩)) (hg : w.heap[g]? = some (.cells #[.int .u8 (x.has : Int), .int .u8 (x.col.r : Int), .int .u8 (x.col.g : Int), .int .u8 (x.col.b : Int), .int .u8 (x.col.a : Int), .int .u8 (x.bak.r : Int), .int .u8 (x.bak.g : Int), .int .u8 (x.bak.b : Int), .int .u8 (x.bak.a : Int), .bool x.brd, .int .i64 x.pad] 32)) :
    (results fn tmps).run Tryd.prog w = .ok (lkV x) w :=
  results_cell_row h tmps w g 32 #[.int .u8 (x.has : Int), .int .u8 (x.col.r : Int), .int .u8 (x.col.g : Int), .int .u8 (x.col.b : Int), .int .u8 (x.col.a : Int), .int .u8 (x.bak.r : Int), .int .u8 (x.bak.g : Int), .int .u8 (x.bak.b : Int), .int .u8 (x.bak.a : Int), .bool x.brd, .int .i64 x.pad] (0, 0) _ hp hg Tryd.underlying32 rfl (by kernel_rfl)
theorem under_has (a b : Lk) : (underL a b).has = (a.has ||| b.has) % 16 := rfl
set_option maxHeartbeats 4000000 in
set_option maxRecDepth 100000 in
theorem rUnder_any (a b : Lk) (ha : a.has < 256) (hb : b.has < 256) (w : World) : Calls Tryd.prog 23 #[lkV a, lkV b] w fun e w' => e = .returned (lkV (underL a b)) ∧ Below w.heap.size w w' := by
  have hx := has8 ha hb
  rw [← under_has] at hx
  have g1 : (underL a b).col = if tl a.has 1 then a.col else if tl b.has 1 then b.col else Cl.zero := rfl
  have f1 := hid g1
  clear g1
  have g2 : (underL a b).bak = if tl a.has 2 then a.bak else if tl b.has 2 then b.bak else Cl.zero := rfl
  have f2 := hid g2
  clear g2
  have g3 : (underL a b).brd = if tl a.has 4 then a.brd else if tl b.has 4 then b.brd else false := rfl
  have f3 := hid g3
  clear g3
  have g4 : (underL a b).pad = if tl a.has 8 then a.pad else if tl b.has 8 then b.pad else 0 := rfl
  have f4 := hid g4
  clear g4
  generalize underL a b = u at *
  unfold lkV
  go_enter Tryd.func23, Tryd.ntmps23
  go_upto_if 16 with fail
  go_cut [] (fun wx => wx = ((((w.alloc (.cells #[.int .u8 (a.has : Int), .int .u8 (a.col.r : Int), .int .u8 (a.col.g : Int), .int .u8 (a.col.b : Int), .int .u8 (a.col.a : Int), .int .u8 (a.bak.r : Int), .int .u8 (a.bak.g : Int), .int .u8 (a.bak.b : Int), .int .u8 (a.bak.a : Int), .bool a.brd, .int .i64 a.pad] 32)).alloc (.cells #[.int .u8 (b.has : Int), .int .u8 (b.col.r : Int), .int .u8 (b.col.g : Int), .int .u8 (b.col.b : Int), .int .u8 (b.col.a : Int), .int .u8 (b.bak.r : Int), .int .u8 (b.bak.g : Int), .int .u8 (b.bak.b : Int), .int .u8 (b.bak.a : Int), .bool b.brd, .int .i64 b.pad] 32)).alloc (.cells #[.int .u8 0, .int .u8 0, .int .u8 0, .int .u8 0, .int .u8 0, .int .u8 0, .int .u8 0, .int .u8 0, .int .u8 0, .bool false, .int .i64 0] 32)).alloc (.cells #[.int .u8 (u.has : Int), .int .u8 (u.col.r : Int), .int .u8 (u.col.g : Int), .int .u8 (u.col.b : Int), .int .u8 (u.col.a : Int), .int .u8 0, .int .u8 0, .int .u8 0, .int .u8 0, .bool false, .int .i64 0] 32)))
  case first =>
    clear f2 f3 f4
    have F := f1.out
    clear f1
    cases h1 : tl a.has 1 with
    | true =>
      rw [h1] at F
      have F := hid F
      unfold tl at h1
      go_wp2_with fail
      go_meet
      rw [F.out]; rfl
    | false =>
      rw [h1] at F
      unfold tl at h1
      cases h2 : tl b.has 1 with
      | true =>
        rw [h2] at F
        have F := hid F
        unfold tl at h2
        go_wp2_with fail
        go_meet
        rw [F.out]; rfl
      | false =>
        rw [h2] at F
        have F := hid F
        unfold tl at h2
        go_wp2_with fail
        go_meet
        rw [F.out]; rfl
  case rest =>
    subst hcut
    clear f1
    go_upto_if 30 with fail
    go_cut [] (fun wx => wx = ((((w.alloc (.cells #[.int .u8 (a.has : Int), .int .u8 (a.col.r : Int), .int .u8 (a.col.g : Int), .int .u8 (a.col.b : Int), .int .u8 (a.col.a : Int), .int .u8 (a.bak.r : Int), .int .u8 (a.bak.g : Int), .int .u8 (a.bak.b : Int), .int .u8 (a.bak.a : Int), .bool a.brd, .int .i64 a.pad] 32)).alloc (.cells #[.int .u8 (b.has : Int), .int .u8 (b.col.r : Int), .int .u8 (b.col.g : Int), .int .u8 (b.col.b : Int), .int .u8 (b.col.a : Int), .int .u8 (b.bak.r : Int), .int .u8 (b.bak.g : Int), .int .u8 (b.bak.b : Int), .int .u8 (b.bak.a : Int), .bool b.brd, .int .i64 b.pad] 32)).alloc (.cells #[.int .u8 0, .int .u8 0, .int .u8 0, .int .u8 0, .int .u8 0, .int .u8 0, .int .u8 0, .int .u8 0, .int .u8 0, .bool false, .int .i64 0] 32)).alloc (.cells #[.int .u8 (u.has : Int), .int .u8 (u.col.r : Int), .int .u8 (u.col.g : Int), .int .u8 (u.col.b : Int), .int .u8 (u.col.a : Int), .int .u8 (u.bak.r : Int), .int .u8 (u.bak.g : Int), .int .u8 (u.bak.b : Int), .int .u8 (u.bak.a : Int), .bool false, .int .i64 0] 32)))
    case first =>
      clear f3 f4
      have F := f2.out
      clear f2
      cases h1 : tl a.has 2 with
      | true =>
        rw [h1] at F
        have F := hid F
        unfold tl at h1
        go_wp2_with fail
        go_meet
        rw [F.out]; rfl
      | false =>
        rw [h1] at F
        unfold tl at h1
        cases h2 : tl b.has 2 with
        | true =>
          rw [h2] at F
          have F := hid F
          unfold tl at h2
          go_wp2_with fail
          go_meet
          rw [F.out]; rfl
        | false =>
          rw [h2] at F
          have F := hid F
          unfold tl at h2
          go_wp2_with fail
          go_meet
          rw [F.out]; rfl
    case rest =>
      subst hcut
      clear f2
      go_upto_if 44 with fail
      go_cut [] (fun wx => wx = ((((w.alloc (.cells #[.int .u8 (a.has : Int), .int .u8 (a.col.r : Int), .int .u8 (a.col.g : Int), .int .u8 (a.col.b : Int), .int .u8 (a.col.a : Int), .int .u8 (a.bak.r : Int), .int .u8 (a.bak.g : Int), .int .u8 (a.bak.b : Int), .int .u8 (a.bak.a : Int), .bool a.brd, .int .i64 a.pad] 32)).alloc (.cells #[.int .u8 (b.has : Int), .int .u8 (b.col.r : Int), .int .u8 (b.col.g : Int), .int .u8 (b.col.b : Int), .int .u8 (b.col.a : Int), .int .u8 (b.bak.r : Int), .int .u8 (b.bak.g : Int), .int .u8 (b.bak.b : Int), .int .u8 (b.bak.a : Int), .bool b.brd, .int .i64 b.pad] 32)).alloc (.cells #[.int .u8 0, .int .u8 0, .int .u8 0, .int .u8 0, .int .u8 0, .int .u8 0, .int .u8 0, .int .u8 0, .int .u8 0, .bool false, .int .i64 0] 32)).alloc (.cells #[.int .u8 (u.has : Int), .int .u8 (u.col.r : Int), .int .u8 (u.col.g : Int), .int .u8 (u.col.b : Int), .int .u8 (u.col.a : Int), .int .u8 (u.bak.r : Int), .int .u8 (u.bak.g : Int), .int .u8 (u.bak.b : Int), .int .u8 (u.bak.a : Int), .bool u.brd, .int .i64 0] 32)))
      case first =>
        clear f4
        have F := f3.out
        clear f3
        cases h1 : tl a.has 4 with
        | true =>
          rw [h1] at F
          have F := hid F
          unfold tl at h1
          go_wp2_with fail
          go_meet
          rw [F.out]; rfl
        | false =>
          rw [h1] at F
          unfold tl at h1
          cases h2 : tl b.has 4 with
          | true =>
            rw [h2] at F
            have F := hid F
            unfold tl at h2
            go_wp2_with fail
            go_meet
            rw [F.out]; rfl
          | false =>
            rw [h2] at F
            have F := hid F
            unfold tl at h2
            go_wp2_with fail
            go_meet
            rw [F.out]; rfl
      case rest =>
        subst hcut
        clear f3
        go_upto_if 58 with fail
        go_cut [] (fun wx => wx = ((((w.alloc (.cells #[.int .u8 (a.has : Int), .int .u8 (a.col.r : Int), .int .u8 (a.col.g : Int), .int .u8 (a.col.b : Int), .int .u8 (a.col.a : Int), .int .u8 (a.bak.r : Int), .int .u8 (a.bak.g : Int), .int .u8 (a.bak.b : Int), .int .u8 (a.bak.a : Int), .bool a.brd, .int .i64 a.pad] 32)).alloc (.cells #[.int .u8 (b.has : Int), .int .u8 (b.col.r : Int), .int .u8 (b.col.g : Int), .int .u8 (b.col.b : Int), .int .u8 (b.col.a : Int), .int .u8 (b.bak.r : Int), .int .u8 (b.bak.g : Int), .int .u8 (b.bak.b : Int), .int .u8 (b.bak.a : Int), .bool b.brd, .int .i64 b.pad] 32)).alloc (.cells #[.int .u8 0, .int .u8 0, .int .u8 0, .int .u8 0, .int .u8 0, .int .u8 0, .int .u8 0, .int .u8 0, .int .u8 0, .bool false, .int .i64 0] 32)).alloc (.cells #[.int .u8 (u.has : Int), .int .u8 (u.col.r : Int), .int .u8 (u.col.g : Int), .int .u8 (u.col.b : Int), .int .u8 (u.col.a : Int), .int .u8 (u.bak.r : Int), .int .u8 (u.bak.g : Int), .int .u8 (u.bak.b : Int), .int .u8 (u.bak.a : Int), .bool u.brd, .int .i64 u.pad] 32)))
        case first =>
          have F := f4.out
          clear f4
          cases h1 : tl a.has 8 with
          | true =>
            rw [h1] at F
            have F := hid F
            unfold tl at h1
            go_wp2_with fail
            go_meet
            rw [F.out]; rfl
          | false =>
            rw [h1] at F
            unfold tl at h1
            cases h2 : tl b.has 8 with
            | true =>
              rw [h2] at F
              have F := hid F
              unfold tl at h2
              go_wp2_with fail
              go_meet
              rw [F.out]; rfl
            | false =>
              rw [h2] at F
              have F := hid F
              unfold tl at h2
              go_wp2_with fail
              go_meet
              rw [F.out]; rfl
        case rest =>
          subst hcut
          clear f4
          go_wp2
          refine bodyPost_ret (res_look rfl _ _ (w.heap.size + 1 + 1) u rfl ?hg) rfl ⟨rfl, ?hb⟩
          case hb => exact (by repeat (first | exact Below.refl _ _ | with_reducible refine Below.alloc ?_ (by first | (simp; done) | (simp; omega) | omega) _ | with_reducible refine Below.setCell ?_ (by first | (simp; done) | (simp; omega) | omega) _ | with_reducible refine Below.drew ?_ | with_reducible refine Below.trans ?_ (Below.mono (by assumption) (by first | (simp; done) | (simp; omega) | omega))))
          case hg => rw [blk3_4]
end Go.Proofs.YtoiondgcjbdonaaDoor
