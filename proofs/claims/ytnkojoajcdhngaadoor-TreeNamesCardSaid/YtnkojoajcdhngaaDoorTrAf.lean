/- Layer 8: slices.Equal at numbers and at wrappers. -/
import Derived.Test.YtnkojoajcdhngaaDoorTr33
import Derived.BigQuiet
import Derived.Shelf.Slices.Equal
import Derived.Shelf.Slices.Empties2
import Derived.Shelf.Lay
import Derived.Ground.NamesProg
import Derived.Test.YtnkojoajcdhngaaDoorTrAb
namespace Go.Proofs.YtnkojoajcdhngaaDoor
set_option linter.unusedVariables false
set_option linter.unusedSimpArgs false
set_option maxRecDepth 100000
open Go.RowKit Go.Shelf Go.Lib
attribute [local go_sem] Oper.semAt_some
def Tryd.laysEqI_ren : Go.Shelf.Ren := ⟨fun | 111 => 74 | n => n, fun | 28 => 37 | 3 => 3 | 4 => 4 | 0 => 0 | n => n, fun | n => n⟩
theorem Tryd.laysEqI : Go.Proofs.Lays.n111 Tryd.prog Tryd.laysEqI_ren := {
  mixed := by kernel_rfl
  f111 := Tryd.func74.trans (congrArg some (by kernel_rfl))
  t0 := Tryd.underlying0
  a0 := Tryd.isAgg0
  z0 := Tryd.sizeOf0
  v0 := Tryd.zeroValue0
  t3 := Tryd.underlying3
  a3 := Tryd.isAgg3
  z3 := Tryd.sizeOf3
  v3 := Tryd.zeroValue3
  t4 := Tryd.underlying4
  a4 := Tryd.isAgg4
  z4 := Tryd.sizeOf4
  v4 := Tryd.zeroValue4
  t28 := Tryd.underlying37
  a28 := Tryd.isAgg37
  z28 := Tryd.sizeOf37
  v28 := Tryd.zeroValue37 }
set_option maxRecDepth 100000
set_option maxHeartbeats 16000000

def wrB (x y : Wr) : Bool := wrEq x.k x.m x.n x.s y.k y.m y.n y.s
def eqW : List Wr → List Wr → Bool
  | [], [] => true
  | x :: xs, y :: ys => wrB x y && eqW xs ys
  | _, _ => false
theorem eqW_len : ∀ {xs ys : List Wr}, xs.length ≠ ys.length → eqW xs ys = false
  | [], [], h => absurd rfl h
  | [], _ :: _, _ => rfl
  | _ :: _, [], _ => rfl
  | x :: xs, y :: ys, h => by
    rw [eqW, eqW_len (by simpa using h), Bool.and_false]
theorem eqW_drop {xs ys : List Wr} {i : Nat} (hx : i < xs.length) (hy : i < ys.length) : eqW (xs.drop i) (ys.drop i) = (wrB xs[i] ys[i] && eqW (xs.drop (i + 1)) (ys.drop (i + 1))) := by
  rw [List.drop_eq_getElem_cons hx, List.drop_eq_getElem_cons hy, eqW]
theorem EqualI_any {B : Nat} (xs ys : List Int) (A A2 : Option Addr) (c c2 : Nat) (w : World) (h1 : At B w A (ints xs)) (h2 : At B w A2 (ints ys)) (hl : xs.length ≤ 9000000000000000) (hl2 : ys.length ≤ 9000000000000000) :
    Calls Tryd.prog 74 #[.slice A xs.length c, .slice A2 ys.length c2] w fun e w' => e = .returned (.bool (xs == ys)) ∧ ∃ q, w' = w.drewN q := by
  by_cases hne : xs.length = ys.length
  · by_cases h0 : xs.length = 0
    · have hx : xs = [] := List.eq_nil_of_length_eq_zero h0
      have hy : ys = [] := List.eq_nil_of_length_eq_zero (by omega)
      subst hx
      subst hy
      refine (Any.slices_Equal_int_empty Tryd.laysEqI A A2 c 0 c2 w (by decide)).mono ?_
      rintro e w' ⟨rfl, rfl⟩
      exact ⟨rfl, 0, rfl⟩
    · obtain ⟨g, o, rfl, _, hc⟩ := h1 (by rw [ints_len]; omega)
      obtain ⟨g2, o2, rfl, _, hc2⟩ := h2 (by rw [ints_len]; omega)
      have C : Calls Tryd.prog 74 #[.slice (some ⟨g, o, none⟩) xs.length c, .slice (some ⟨g2, o2, none⟩) ys.length c2] w _ :=
        Any.slices_Equal_int Tryd.laysEqI g o xs.length c g2 o2 ys.length c2 xs ys w (Nat.le_refl _) (Nat.le_refl _) (by omega) (by omega)
          (fun j hj => hc j _ (by rw [ints_at xs j hj, List.getD_eq_getElem?_getD, List.getElem?_eq_getElem hj]; rfl))
          (fun j hj => hc2 j _ (by rw [ints_at ys j hj, List.getD_eq_getElem?_getD, List.getElem?_eq_getElem hj]; rfl))
      refine C.mono ?_
      rintro e w' ⟨rfl, q, rfl⟩
      exact ⟨by rw [List.take_length, List.take_length], q, rfl⟩
  · refine (Any.slices_Equal_int_lens Tryd.laysEqI A A2 xs.length c ys.length c2 w hne).mono ?_
    rintro e w' ⟨rfl, h⟩
    have hf : (xs == ys) = false := beq_eq_false_iff_ne.2 (fun e => hne (by rw [e]))
    rw [hf]
    exact ⟨rfl, 0, h⟩
theorem EqualW_any {B : Nat} (xs ys : List Wr) (A A2 : Option Addr) (c c2 : Nat) (w : World) (h1 : At B w A (wrs xs)) (h2 : At B w A2 (wrs ys)) (hl : xs.length ≤ 9000000000000000) :
    Calls Tryd.prog 73 #[.slice A xs.length c, .slice A2 ys.length c2] w fun e w' => e = .returned (.bool (eqW xs ys)) ∧ ∃ q, w' = w.drewN q := by
  obtain ⟨R, hR⟩ : ∃ R, eqW xs ys = R := ⟨_, rfl⟩
  rw [hR]
  by_cases hne : xs.length = ys.length
  · have H1 := hid h1
    have H2 := hid h2
    obtain ⟨n, hn⟩ : ∃ n, xs.length = n := ⟨_, rfl⟩
    have HNX := hid hn
    have HNY := hid (show ys.length = n by omega)
    rw [HNY.out, hn]
    have HR0 := hid (show eqW (xs.drop 0) (ys.drop 0) = R from hR)
    have hmx := mixed
    rw [hn] at hl
    clear h1 h2 hn hne hR
    go_enter Tryd.func73, Tryd.ntmps73
    go_wp2
    go_loopg [13] n (fun gh v13 wr => ∃ (i q : Nat), v13 = .int .i64 (i : Int) ∧ i ≤ n ∧ n - i ≤ gh ∧ Hid (eqW (xs.drop i) (ys.drop i) = R) ∧ w.drewN q = wr)
    case atStart => exact ⟨0, 0, rfl, by omega, by omega, HR0, rfl⟩
    case round =>
      obtain ⟨i, q, rfl, hi, hgh, HQ, hwr⟩ := hrel
      have HWR := hid hwr
      by_cases hlt : i < n
      · have hli : (i : Int) < (n : Int) := by omega
        have hix : i < xs.length := by have := HNX.out; omega
        have hiy : i < ys.length := by have := HNY.out; omega
        have hq := HQ.out
        rw [eqW_drop hix hiy] at hq
        obtain ⟨g, o, rfl, hg, c0, c1, c2', c3⟩ := H1.out.wr hix
        obtain ⟨g2, o2, rfl, hg2, d0, d1, d2, d3⟩ := H2.out.wr hiy
        obtain ⟨x, hx⟩ : ∃ x, xs[i] = x := ⟨_, rfl⟩
        obtain ⟨y, hy⟩ : ∃ y, ys[i] = y := ⟨_, rfl⟩
        rw [hx] at c0 c1 c2' c3 hq
        rw [hy] at d0 d1 d2 d3 hq
        have a0 : wr.cell? ⟨g, o + i * 4, none⟩ = some (.int .u8 x.k) := by rw [← hwr]; exact c0
        have a1 : wr.cell? ⟨g, o + i * 4 + 1, none⟩ = some (.int .u16 x.m) := by rw [← hwr]; exact c1
        have a2 : wr.cell? ⟨g, o + i * 4 + 2, none⟩ = some (.int .i64 x.n) := by rw [← hwr]; exact c2'
        have a3 : wr.cell? ⟨g, o + i * 4 + 3, none⟩ = some (.string x.s) := by rw [← hwr]; exact c3
        have b0 : wr.cell? ⟨g2, o2 + i * 4, none⟩ = some (.int .u8 y.k) := by rw [← hwr]; exact d0
        have b1 : wr.cell? ⟨g2, o2 + i * 4 + 1, none⟩ = some (.int .u16 y.m) := by rw [← hwr]; exact d1
        have b2 : wr.cell? ⟨g2, o2 + i * 4 + 2, none⟩ = some (.int .i64 y.n) := by rw [← hwr]; exact d2
        have b3 : wr.cell? ⟨g2, o2 + i * 4 + 3, none⟩ = some (.string y.s) := by rw [← hwr]; exact d3
        clear hx hy c0 c1 c2' c3 d0 d1 d2 d3 hwr
        obtain ⟨xk, xm, xn, xs9⟩ := x
        obtain ⟨yk, ym, yn, ys9⟩ := y
        unfold wrB at hq
        simp only at a0 a1 a2 a3 b0 b1 b2 b3 hq
        obtain ⟨z, hz⟩ : ∃ z, wrEq xk xm xn xs9 yk ym yn ys9 = z := ⟨_, rfl⟩
        rw [hz] at hq
        go_wp2
        go_quiet (fail)
        clear hz
        cases z with
        | true =>
          rw [Bool.true_and] at hq
          have HQ2 := hid hq
          clear hq
          go_wp2
          go_roundg (n - (i + 1))
          case measure => omega
          case rel => exact ⟨i + 1, q + nq, by go_num, by omega, by omega, HQ2, by rw [← HWR.out, World.drewN_drewN]⟩
        | false =>
          rw [Bool.false_and] at hq
          subst hq
          have hd := hid (show wr.drewN nq = w.drewN (q + nq) by rw [← HWR.out, World.drewN_drewN])
          go_wp2
          refine bodyPost_ret (v := .bool false) (by simp [results, Tryd.results73, go_sem, *]) rfl ⟨rfl, _, hd.out⟩
      · have hin : i = n := by omega
        have q2 : ¬ (i : Int) < (n : Int) := by omega
        have hq := HQ.out
        rw [List.drop_eq_nil_of_le (by have := HNX.out; omega), List.drop_eq_nil_of_le (by have := HNY.out; omega)] at hq
        have hq2 : R = true := hq.symm
        subst hq2
        have hd := hid hwr.symm
        clear hwr
        go_wp2
        refine bodyPost_ret (v := .bool true) (by simp [results, Tryd.results73, go_sem, *]) rfl ⟨rfl, _, hd.out⟩
  · have hf : R = false := by rw [← hR]; exact eqW_len hne
    subst hf
    obtain ⟨n, hn⟩ : ∃ n, xs.length = n := ⟨_, rfl⟩
    obtain ⟨m, hm⟩ : ∃ m, ys.length = m := ⟨_, rfl⟩
    rw [hn, hm] at hne ⊢
    have q : ¬ (n : Int) = (m : Int) := by omega
    have qb : ((n : Int) == (m : Int)) = false := beq_eq_false_iff_ne.2 q
    clear hR h1 h2 hl hn hm
    go_enter Tryd.func73, Tryd.ntmps73
    go_wp2
    refine bodyPost_ret (v := .bool false) (by simp [results, Tryd.results73, go_sem, *]) rfl ⟨rfl, 0, rfl⟩
end Go.Proofs.YtnkojoajcdhngaaDoor

/- Layer 8: Same. -/
namespace Go.Proofs.YtnkojoajcdhngaaDoor
set_option linter.unusedVariables false
set_option linter.unusedSimpArgs false
set_option maxRecDepth 100000
open Go.RowKit Go.Shelf Go.Lib
attribute [local go_sem] Oper.semAt_some
set_option maxRecDepth 100000
set_option maxHeartbeats 16000000

/-- Are nodes the same? -/
def sameN (a b : Nd) : Bool := alikeB a b && (eqW a.wraps b.wraps && (a.kids == b.kids))
theorem same1_any {B : Nat} (a b : Nd) (hoa : a.ok) (hob : b.ok) (Aw Ak Bw Bk : Option Addr) (cw ck dw dk : Nat) (w : World) (h1 : At B w Aw (wrs a.wraps)) (h2 : At B w Ak (ints a.kids)) (h3 : At B w Bw (wrs b.wraps)) (h4 : At B w Bk (ints b.kids)) (hB : B ≤ w.heap.size)
    (ca cb : List Value) (hca : ndC a (.slice Aw a.wraps.length cw) (.slice Ak a.kids.length ck) = ca) (hcb : ndC b (.slice Bw b.wraps.length dw) (.slice Bk b.kids.length dk) = cb) :
    Calls Tryd.prog 71 #[.agg ca.toArray, .agg cb.toArray] w fun e w' => e = .returned (.bool (sameN a b)) ∧ Below w.heap.size w w' := by
  obtain ⟨s0, hs⟩ : ∃ s0, w.heap.size = s0 := ⟨_, rfl⟩
  have hla : ca.length = 19 := by rw [← hca]; rfl
  have hlb : cb.length = 19 := by rw [← hcb]; rfl
  have h1a : ca.toArray.all (·.oneCell') = true := by rw [← hca]; exact ndC_one a
  have h1b : cb.toArray.all (·.oneCell') = true := by rw [← hcb]; exact ndC_one b
  obtain ⟨W, hW⟩ : ∃ W, (w.alloc (.cells ca.toArray 39)).alloc (.cells cb.toArray 39) = W := ⟨_, rfl⟩
  have hN1 : W.heap[s0]? = some (.cells ca.toArray 39 (0, 0)) := by
    rw [← hW, ← hs, Below.heap_alloc _ _ _ (by simp)]
    exact World.alloc_heap_new _ _
  have hN2 : W.heap[s0 + 1]? = some (.cells cb.toArray 39 (0, 0)) := by
    rw [← hW, ← hs]
    have := World.alloc_heap_new (w.alloc (.cells ca.toArray 39)) (.cells cb.toArray 39)
    rwa [World.size_alloc] at this
  have hB2 : Below w.heap.size w W := by
    rw [← hW]
    exact ((Below.refl _ _).alloc (Nat.le_refl _) _).alloc (by simp) _
  have CA := alike_any a b _ _ _ _ W ca cb hca hcb hla hlb h1a h1b
  have CW := fun (w2 : World) (hb : Below W.heap.size W w2) => EqualW_any a.wraps b.wraps Aw Bw cw dw w2 ((h1.below (hB2.mono hB)).below (hb.mono (by have := hB2.size; omega))) ((h3.below (hB2.mono hB)).below (hb.mono (by have := hB2.size; omega))) hoa.2.2.2.2.2.1
  have CK := fun (w2 : World) (hb : Below W.heap.size W w2) => EqualI_any a.kids b.kids Ak Bk ck dk w2 ((h2.below (hB2.mono hB)).below (hb.mono (by have := hB2.size; omega))) ((h4.below (hB2.mono hB)).below (hb.mono (by have := hB2.size; omega))) (by have := hoa.2.2.2.2.2.2; omega) (by have := hob.2.2.2.2.2.2; omega)
  unfold sameN
  obtain ⟨z1, hz1⟩ : ∃ z, alikeB a b = z := ⟨_, rfl⟩
  obtain ⟨z2, hz2⟩ : ∃ z, eqW a.wraps b.wraps = z := ⟨_, rfl⟩
  obtain ⟨z3, hz3⟩ : ∃ z, (a.kids == b.kids) = z := ⟨_, rfl⟩
  rw [hz1] at CA ⊢
  rw [hz2] at CW ⊢
  rw [hz3] at CK ⊢
  have o17 : W.cell? ⟨s0, 17, none⟩ = some (.slice Aw a.wraps.length cw) := by rw [blk_cell hN1, ← hca]; rfl
  have o18 : W.cell? ⟨s0, 18, none⟩ = some (.slice Ak a.kids.length ck) := by rw [blk_cell hN1, ← hca]; rfl
  have p17 : W.cell? ⟨s0 + 1, 17, none⟩ = some (.slice Bw b.wraps.length dw) := by rw [blk_cell hN2, ← hcb]; rfl
  have p18 : W.cell? ⟨s0 + 1, 18, none⟩ = some (.slice Bk b.kids.length dk) := by rw [blk_cell hN2, ← hcb]; rfl
  obtain ⟨la, hla9⟩ : ∃ l, a.wraps.length = l := ⟨_, rfl⟩
  obtain ⟨lb, hlb9⟩ : ∃ l, b.wraps.length = l := ⟨_, rfl⟩
  obtain ⟨ka, hka9⟩ : ∃ l, a.kids.length = l := ⟨_, rfl⟩
  obtain ⟨kb, hkb9⟩ : ∃ l, b.kids.length = l := ⟨_, rfl⟩
  rw [hla9] at CW o17
  rw [hlb9] at CW p17
  rw [hka9] at CK o18
  rw [hkb9] at CK p18
  have HW := hid hW
  have HN1 := hid hN1
  have HN2 := hid hN2
  have HB := hid hB2
  have HCW := hid CW
  have HCK := hid CK
  have HO17 := hid o17
  have HO18 := hid o18
  have HP17 := hid p17
  have HP18 := hid p18
  have hst := store_node w ca hla h1a
  have hst2 := store_node (w.alloc (.cells ca.toArray 39)) cb hlb h1b
  rw [hs] at HB ⊢
  have HS := hid hs
  have lW1 := lt_of_block hN1
  have lW2 := lt_of_block hN2
  clear hW hN1 hN2 hB2 CW CK o17 o18 p17 p18 hca hcb hz1 hz2 hz3 hla9 hlb9 hka9 hkb9 h1 h2 h3 h4 hoa hob
  go_enter Tryd.func71, Tryd.ntmps71
  go_upto_region 1 with fail
  rw [HW.out]
  clear hst hst2 hs HW
  go_wp2_with (first
    | (refine load_box rfl (.tmp 2) rfl s0 rfl ca hla HN1.out ?_)
    | (refine load_box rfl (.tmp 3) rfl (s0 + 1) rfl cb hlb HN2.out ?_))
  with_reducible refine CA.mono ?_
  rintro e w2 ⟨rfl, hb2⟩
  have hB2 := HB.out.trans (hb2.mono (by have := HB.out.size; have := HS.out; omega))
  have c17 := (hb2.cell (p := ⟨s0, 17, none⟩) lW1).trans HO17.out
  have c18 := (hb2.cell (p := ⟨s0, 18, none⟩) lW1).trans HO18.out
  have d17 := (hb2.cell (p := ⟨s0 + 1, 17, none⟩) lW2).trans HP17.out
  have d18 := (hb2.cell (p := ⟨s0 + 1, 18, none⟩) lW2).trans HP18.out
  have HB2 := hid hB2
  have hs2 := hb2.size
  clear CA hB2
  cases z1 with
  | false =>
    clear hb2
    go_wp2
    refine bodyPost_ret (v := .bool false) (by simp [results, Tryd.results71, go_sem, *]) rfl ⟨rfl, HB2.out⟩
  | true =>
    have CW := HCW.out w2 hb2
    go_wp2_with fail
    with_reducible refine CW.mono ?_
    rintro e w3 ⟨rfl, q, hw3⟩
    have hb3 : Below W.heap.size W w3 := by rw [hw3]; exact ⟨hb2.os, hb2.tape, hb2.output, hb2.size, hb2.block⟩
    have e18 : w3.cell? ⟨s0, 18, none⟩ = some (.slice Ak ka ck) := by rw [hw3]; exact c18
    have f18 : w3.cell? ⟨s0 + 1, 18, none⟩ = some (.slice Bk kb dk) := by rw [hw3]; exact d18
    have HB3 := hid (HB.out.trans (hb3.mono (by have := HB.out.size; have := HS.out; omega)))
    have CK := HCK.out w3 hb3
    have m1 : s0 < w3.heap.size := by have := hb3.size; omega
    have m2 : s0 + 1 < w3.heap.size := by have := hb3.size; omega
    clear CW c17 c18 d17 d18 hb2 hw3 hb3
    cases z2 with
    | false =>
      clear CK
      go_wp2
      refine bodyPost_ret (v := .bool false) (by simp [results, Tryd.results71, go_sem, *]) rfl ⟨rfl, HB3.out⟩
    | true =>
      go_wp2_with fail
      with_reducible refine CK.mono ?_
      rintro e w4 ⟨rfl, q, hw4⟩
      have hB4 : Below s0 w w4 := by rw [hw4]; exact ⟨HB3.out.os, HB3.out.tape, HB3.out.output, HB3.out.size, HB3.out.block⟩
      have HB4 := hid hB4
      clear CK hw4 hB4
      go_wp2
      refine bodyPost_ret (v := .bool z3) (by simp [results, Tryd.results71, go_sem, *]) rfl ⟨by simp, HB4.out⟩
end Go.Proofs.YtnkojoajcdhngaaDoor

/- Layer 8: EqualFunc, Same. -/
namespace Go.Proofs.YtnkojoajcdhngaaDoor
set_option linter.unusedVariables false
set_option linter.unusedSimpArgs false
set_option maxRecDepth 100000
open Go.RowKit Go.Shelf Go.Lib
attribute [local go_sem] Oper.semAt_some
set_option maxRecDepth 100000
set_option maxHeartbeats 16000000

def sameL : List Nd → List Nd → Bool
  | [], [] => true
  | a :: l, b :: m => sameN a b && sameL l m
  | _, _ => false
theorem sameL_len : ∀ {l m : List Nd}, l.length ≠ m.length → sameL l m = false
  | [], [], h => absurd rfl h
  | [], _ :: _, _ => rfl
  | _ :: _, [], _ => rfl
  | a :: l, b :: m, h => by
    rw [sameL, sameL_len (by simpa using h), Bool.and_false]
theorem sameL_drop {l m : List Nd} {i : Nat} (hx : i < l.length) (hy : i < m.length) : sameL (l.drop i) (m.drop i) = (sameN l[i] m[i] && sameL (l.drop (i + 1)) (m.drop (i + 1))) := by
  rw [List.drop_eq_getElem_cons hx, List.drop_eq_getElem_cons hy, sameL]
theorem EqualN_any {B : Nat} (L M : List Nd) (hok : ∀ n ∈ L, n.ok) (hokM : ∀ n ∈ M, n.ok) (A A2 : Option Addr) (c c2 : Nat) (w : World) (h1 : NdsAt B w A L) (h2 : NdsAt B w A2 M) (hB : B ≤ w.heap.size) (hl : L.length ≤ 9000000000000) :
    Calls Tryd.prog 70 #[.slice A L.length c, .slice A2 M.length c2, .func (.func 71) #[] #[]] w fun e w' => e = .returned (.bool (sameL L M)) ∧ Below w.heap.size w w' := by
  obtain ⟨R, hR⟩ : ∃ R, sameL L M = R := ⟨_, rfl⟩
  rw [hR]
  by_cases hne : L.length = M.length
  · have H1 := hid h1
    have H2 := hid h2
    have HO1 := hid hok
    have HO2 := hid hokM
    obtain ⟨n, hn⟩ : ∃ n, L.length = n := ⟨_, rfl⟩
    have HNX := hid hn
    have HNY := hid (show M.length = n by omega)
    rw [HNY.out, hn]
    have HR0 := hid (show sameL (L.drop 0) (M.drop 0) = R from hR)
    rw [hn] at hl
    clear h1 h2 hn hne hR hok hokM
    go_enter Tryd.func70, Tryd.ntmps70
    go_wp2
    go_loopg [17] n (fun gh v17 wr => ∃ (i : Nat), v17 = .int .i64 (i : Int) ∧ i ≤ n ∧ n - i ≤ gh ∧ Hid (sameL (L.drop i) (M.drop i) = R) ∧ Hid (Below w.heap.size w wr))
    case atStart => exact ⟨0, rfl, by omega, by omega, HR0, hid (Below.refl _ _)⟩
    case round =>
      obtain ⟨i, rfl, hi, hgh, HQ, HBr⟩ := hrel
      have hsz := HBr.out.size
      by_cases hlt : i < n
      · have hli : (i : Int) < (n : Int) := by omega
        have hix : i < L.length := by have := HNX.out; omega
        have hiy : i < M.length := by have := HNY.out; omega
        have hq := HQ.out
        rw [sameL_drop hix hiy] at hq
        have hb := HBr.out.mono hB
        obtain ⟨g, o, Aw, cw, Ak, ck, rfl, hg, aw, ak, hrg, _, _⟩ := (H1.out.below hb).rg hix
        obtain ⟨g2, o2, Bw, dw, Bk, dk, rfl, hg2, bw, bk, hrg2, _, _⟩ := (H2.out.below hb).rg hiy
        have ha := HO1.out _ (List.getElem_mem hix)
        have hb9 := HO2.out _ (List.getElem_mem hiy)
        obtain ⟨a, hae⟩ : ∃ a, L[i] = a := ⟨_, rfl⟩
        obtain ⟨b, hbe⟩ : ∃ b, M[i] = b := ⟨_, rfl⟩
        rw [hae] at aw ak hrg ha hq
        rw [hbe] at bw bk hrg2 hb9 hq
        have y0 : g < wr.heap.size := by omega
        have y1 : g2 < wr.heap.size := by omega
        obtain ⟨ca, hca⟩ : ∃ ca, ndC a (.slice Aw a.wraps.length cw) (.slice Ak a.kids.length ck) = ca := ⟨_, rfl⟩
        obtain ⟨cb, hcb⟩ : ∃ cb, ndC b (.slice Bw b.wraps.length dw) (.slice Bk b.kids.length dk) = cb := ⟨_, rfl⟩
        have hla : ca.length = 19 := by rw [← hca]; rfl
        have hlb : cb.length = 19 := by rw [← hcb]; rfl
        have h1a : ca.toArray.all (·.oneCell') = true := by rw [← hca]; exact ndC_one a
        have h1b : cb.toArray.all (·.oneCell') = true := by rw [← hcb]; exact ndC_one b
        rw [hca] at hrg
        rw [hcb] at hrg2
        obtain ⟨W8, hW8⟩ : ∃ W8, wr.alloc (.cells ca.toArray 39) = W8 := ⟨_, rfl⟩
        obtain ⟨W9, hW9⟩ : ∃ W9, W8.alloc (.cells cb.toArray 39) = W9 := ⟨_, rfl⟩
        have hb8 : Below wr.heap.size wr W8 := by
          rw [← hW8]
          exact (Below.refl _ _).alloc (Nat.le_refl _) _
        have s8 : W8.heap.size = wr.heap.size + 1 := by rw [← hW8]; simp
        have hb89 : Below W8.heap.size W8 W9 := by
          rw [← hW9]
          exact (Below.refl _ _).alloc (Nat.le_refl _) _
        have hb9w : Below wr.heap.size wr W9 := hb8.trans (hb89.mono (by omega))
        have n1 : W9.heap[wr.heap.size]? = some (.cells ca.toArray 39 (0, 0)) := by
          rw [← hW9, Below.heap_alloc _ _ _ (by omega), ← hW8]
          exact World.alloc_heap_new _ _
        have n2 : W9.heap[W8.heap.size]? = some (.cells cb.toArray 39 (0, 0)) := by
          rw [← hW9]
          exact World.alloc_heap_new _ _
        have hrg2' : W8.rangeAt g2 (o2 + i * 19) cb := fun j v hj => by rw [hb8.cell (p := ⟨g2, o2 + i * 19 + j, none⟩) y1]; exact hrg2 j v hj
        have CS := same1_any a b ha hb9 Aw Ak Bw Bk cw ck dw dk W9 (aw.below (hb9w.mono (by omega))) (ak.below (hb9w.mono (by omega))) (bw.below (hb9w.mono (by omega))) (bk.below (hb9w.mono (by omega))) (by have := hb9w.size; omega) ca cb hca hcb
        obtain ⟨z, hz⟩ : ∃ z, sameN a b = z := ⟨_, rfl⟩
        rw [hz] at CS hq
        have HRG := hid hrg
        have HRG2 := hid hrg2'
        have H1A := hid h1a
        have H1B := hid h1b
        have HW8 := hid hW8
        have HW9 := hid hW9
        have HN1 := hid n1
        have HN2 := hid n2
        have HCS := hid CS
        have HQ2 := hid hq
        have HB9 := hid (HBr.out.trans (hb9w.mono hsz))
        have hs9 := hb9w.size
        have y2 : g2 < W8.heap.size := by omega
        clear s8
        clear hq aw ak bw bk hrg hrg2 hrg2' ha hb9 hae hbe hca hcb h1a h1b hW8 hW9 hb8 hb89 hb9w n1 n2 CS hz hb
        go_upto_region 5 with fail
        go_cut [7, 8] from 19 to 21 (fun v7 v8 wx => v7 = .int .i64 (i : Int) ∧ v8 = .pointer (some ⟨wr.heap.size, 0, none⟩) ∧ wx = W8)
        case first =>
          have hst := store_node wr ca hla H1A.out
          go_wp2_with (first
            | (refine wpList_load_mid rfl 39 (.tmp 20) rfl g (o + i * 19) rfl ca _ HRG.out rfl rfl (by rw [hla]; exact info_node) ?_))
          go_meet
          exact ⟨rfl, rfl, HW8.out⟩
        case rest =>
        obtain ⟨rfl, rfl, rfl⟩ := hcut
        generalize wc = W8 at *
        go_upto_region 6 with fail
        go_cut [9] from 22 to 25 (fun v9 wx => v9 = .pointer (some ⟨W8.heap.size, 0, none⟩) ∧ wx = W9)
        case first =>
          have hst := store_node W8 cb hlb H1B.out
          go_wp2_with (first
            | (refine wpList_load_mid rfl 39 (.tmp 24) rfl g2 (o2 + i * 19) rfl cb _ HRG2.out rfl rfl (by rw [hlb]; exact info_node) ?_))
          go_meet
          exact ⟨rfl, HW9.out⟩
        case rest =>
        obtain ⟨rfl, rfl⟩ := hcut
        generalize wc = W9 at *
        go_wp2_with (first
          | (refine load_box rfl (.tmp 8) rfl wr.heap.size rfl ca hla HN1.out ?_)
          | (refine load_box rfl (.tmp 9) rfl W8.heap.size rfl cb hlb HN2.out ?_))
        with_reducible refine HCS.out.mono ?_
        rintro e w9 ⟨rfl, hb10⟩
        have HB10 := hid (HB9.out.trans (hb10.mono HB9.out.size))
        have hq := HQ2.out
        clear HCS hb10
        cases z with
        | true =>
          rw [Bool.true_and] at hq
          have HQ3 := hid hq
          clear hq
          go_wp2
          go_roundg (n - (i + 1))
          case measure => omega
          case rel => exact ⟨i + 1, by go_num, by omega, by omega, HQ3, HB10⟩
        | false =>
          rw [Bool.false_and] at hq
          subst hq
          go_wp2
          refine bodyPost_ret (v := .bool false) (by simp [results, Tryd.results70, go_sem, *]) rfl ⟨rfl, HB10.out⟩
      · have hin : i = n := by omega
        have q2 : ¬ (i : Int) < (n : Int) := by omega
        have hq := HQ.out
        rw [List.drop_eq_nil_of_le (by have := HNX.out; omega), List.drop_eq_nil_of_le (by have := HNY.out; omega)] at hq
        have hq2 : R = true := hq.symm
        subst hq2
        go_wp2
        refine bodyPost_ret (v := .bool true) (by simp [results, Tryd.results70, go_sem, *]) rfl ⟨rfl, HBr.out⟩
  · have hf : R = false := by rw [← hR]; exact sameL_len hne
    subst hf
    obtain ⟨n, hn⟩ : ∃ n, L.length = n := ⟨_, rfl⟩
    obtain ⟨m, hm⟩ : ∃ m, M.length = m := ⟨_, rfl⟩
    rw [hn, hm] at hne ⊢
    have q : ¬ (n : Int) = (m : Int) := by omega
    have qb : ((n : Int) == (m : Int)) = false := beq_eq_false_iff_ne.2 q
    clear hR h1 h2 hl hn hm hok hokM
    go_enter Tryd.func70, Tryd.ntmps70
    go_wp2
    refine bodyPost_ret (v := .bool false) (by simp [results, Tryd.results70, go_sem, *]) rfl ⟨rfl, Below.refl _ _⟩
theorem Same_any {B : Nat} (L M : List Nd) (hok : ∀ n ∈ L, n.ok) (hokM : ∀ n ∈ M, n.ok) (A A2 : Option Addr) (c c2 : Nat) (w : World) (h1 : NdsAt B w A L) (h2 : NdsAt B w A2 M) (hB : B ≤ w.heap.size) (hl : L.length ≤ 9000000000000) :
    Calls Tryd.prog 25 #[.agg #[.slice A L.length c], .agg #[.slice A2 M.length c2]] w fun e w' => e = .returned (.bool (sameL L M)) ∧ Below w.heap.size w w' := by
  obtain ⟨W, hW⟩ : ∃ W, (w.alloc (.cells #[.slice A L.length c] 25)).alloc (.cells #[.slice A2 M.length c2] 25) = W := ⟨_, rfl⟩
  have hb : Below w.heap.size w W := by
    rw [← hW]
    exact ((Below.refl _ _).alloc (Nat.le_refl _) _).alloc (by simp) _
  have C := EqualN_any L M hok hokM A A2 c c2 W (h1.below (hb.mono hB)) (h2.below (hb.mono hB)) (by have := hb.size; omega) hl
  have HB := hid hb
  have HW := hid hW
  generalize sameL L M = z at *
  generalize L.length = m at *
  generalize M.length = m2 at *
  clear hok hokM h1 h2 hW hb hl
  go_enter Tryd.func25, Tryd.ntmps25
  go_wp2_with fail
  rw [HW.out]
  with_reducible refine C.mono ?_
  rintro e w2 ⟨rfl, hb2⟩
  have hF := hid (HB.out.trans (hb2.mono HB.out.size))
  clear C hb2
  go_wp2
  refine bodyPost_ret (v := .bool z) (by simp [results, Tryd.results25, go_sem, *]) rfl ⟨rfl, hF.out⟩
end Go.Proofs.YtnkojoajcdhngaaDoor
