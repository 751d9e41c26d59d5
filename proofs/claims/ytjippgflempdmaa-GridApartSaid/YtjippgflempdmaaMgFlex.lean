/- Layer 10: the leaves: within, check, may, Check, room, gaps. -/
import Derived.Test.YtjippgflempdmaaProg
import Derived.Test.YtjippgflempdmaaMgBase
namespace Go.Proofs.Ytjippgflempdmaa
set_option linter.unusedVariables false
set_option linter.unusedSimpArgs false
set_option maxRecDepth 100000
open Go.RowKit

theorem max_fold (a b : Int) : (if a < b then b else a) = max a b := by omega
theorem min_fold (a b : Int) : (if b < a then b else a) = min a b := by omega
attribute [local go_sem] max_fold min_fold
theorem mixed : Try.prog.follows .mixedOrders = true := by kernel_rfl
def inB (n a b : Int) : Bool := decide (a ≤ n) && decide (n ≤ b)
theorem inB_iff (n a b : Int) : inB n a b = true ↔ a ≤ n ∧ n ≤ b := by simp [inB]
theorem inB_no (n a b : Int) : inB n a b = false ↔ n < a ∨ b < n := by simp [inB]; omega
def mayT (t : T3) : Bool := inB t.p 0 16384 && (t.q == 0 || inB t.q t.p 16384) && inB t.r 0 16384
theorem mayT_iff (t : T3) : mayT t = true ↔ (0 ≤ t.p ∧ t.p ≤ 16384) ∧ (t.q = 0 ∨ t.p ≤ t.q ∧ t.q ≤ 16384) ∧ (0 ≤ t.r ∧ t.r ≤ 16384) := by
  simp [mayT, inB, and_assoc]
def allT (L : List T3) : Bool := L.all mayT
def chk (L : List T3) : Int := if 1024 < L.length then 4 else if allT L then 0 else 100

set_option maxHeartbeats 400000 in
theorem within_any (n a b : Int) (w : World) : Calls Try.prog 83 #[.int .i64 n, .int .i64 a, .int .i64 b] w fun e w' => e = .returned (.bool (inB n a b)) ∧ w = w' := by
  go_enter Try.func83, Try.ntmps83
  go_wp2
  all_goals
    go_ret
    exact ⟨ret_bool (by unfold inB; first | (simp [*]; done) | (simp; omega)), rfl⟩
set_option maxHeartbeats 400000 in
theorem room_any (n : Int) (w : World) : Calls Try.prog 73 #[.int .i64 n] w fun e w' => e = .returned (.bool (inB n 0 32768)) ∧ w = w' := by
  go_enter Try.func73, Try.ntmps73
  go_wp2
  all_goals
    go_ret
    exact ⟨ret_bool (by unfold inB; first | (simp [*]; done) | (simp; omega)), rfl⟩
set_option maxHeartbeats 400000 in
theorem gaps_any (n : Int) (w : World) : Calls Try.prog 72 #[.int .i64 n] w fun e w' => e = .returned (.bool (inB n 0 16384)) ∧ w = w' := by
  go_enter Try.func72, Try.ntmps72
  go_wp2
  all_goals
    go_ret
    exact ⟨ret_bool (by unfold inB; first | (simp [*]; done) | (simp; omega)), rfl⟩
set_option maxHeartbeats 1000000 in
theorem may_any (t : T3) (w : World) : Calls Try.prog 88 #[.agg #[.int .i64 t.p, .int .i64 t.q, .int .i64 t.r]] w fun e w' => e = .returned (.bool (mayT t)) ∧ Below w.heap.size w w' := by
  go_enter Try.func88, Try.ntmps88
  go_wp2
  all_goals
    go_ret
    exact ⟨ret_bool (by rw [Bool.eq_iff_iff, mayT_iff]; simp; omega), (by repeat (first | exact Below.refl _ _ | with_reducible refine Below.alloc ?_ (by first | (simp; done) | (simp; omega) | omega) _ | with_reducible refine Below.setCell ?_ (by first | (simp; done) | (simp; omega) | omega) _ | with_reducible refine Below.drew ?_ | with_reducible refine Below.trans ?_ (Below.mono (by assumption) (by first | (simp; done) | (simp; omega) | omega))))⟩
theorem may_is {t : T3} {v : Bool} (h : mayT t = v) (w : World) : Calls Try.prog 88 #[.agg #[.int .i64 t.p, .int .i64 t.q, .int .i64 t.r]] w fun e w' => e = .returned (.bool v) ∧ Below w.heap.size w w' := h ▸ may_any t w
theorem allT_take (L : List T3) (k : Nat) (h : k < L.length) : allT (L.take (k + 1)) = (allT (L.take k) && mayT L[k]) := by
  rw [List.take_succ_eq_append_getElem h]
  simp only [allT, List.all_append, List.all_cons, List.all_nil, Bool.and_true]
theorem allT_no {L : List T3} {k : Nat} (h : k < L.length) (hm : mayT L[k] = false) : allT L = false := by
  rw [Bool.eq_false_iff]
  intro ha
  have := (List.all_eq_true.1 ha) L[k] (List.getElem_mem h)
  rw [hm] at this
  cases this

set_option maxHeartbeats 2000000 in
theorem check_any (B : Nat) (A : Option Addr) (c : Nat) (L : List T3) (w : World) (hA : At B w A (t3s L)) (hB : B ≤ w.heap.size) (hl : L.length ≤ 9000000000000000000) :
    Calls Try.prog 82 #[.slice A L.length c] w fun e w' => e = .returned (.int .i64 (chk L)) ∧ Below w.heap.size w w' := by
  by_cases hbig : 1024 < L.length
  · rw [show chk L = 4 by simp [chk, hbig]]
    have hb : (1024 : Int) < (L.length : Int) := by omega
    go_enter Try.func82, Try.ntmps82
    go_wp2
    go_ret
    exact ⟨rfl, (by repeat (first | exact Below.refl _ _ | with_reducible refine Below.alloc ?_ (by first | (simp; done) | (simp; omega) | omega) _ | with_reducible refine Below.setCell ?_ (by first | (simp; done) | (simp; omega) | omega) _ | with_reducible refine Below.drew ?_ | with_reducible refine Below.trans ?_ (Below.mono (by assumption) (by first | (simp; done) | (simp; omega) | omega))))⟩
  · have hb : (L.length : Int) ≤ 1024 := by omega
    go_enter Try.func82, Try.ntmps82
    go_wp2
    go_loopw [10] (fun i wr => ∃ k : Nat, k ≤ L.length ∧ i = .int .i64 k ∧ Hid (allT (L.take k) = true) ∧ Below w.heap.size w wr) (fun i _ => L.length - (intOf i).toNat)
    case atStart => exact ⟨0, by omega, rfl, Go.Lib.hid rfl, Below.refl _ _⟩
    case round =>
      obtain ⟨k, hk, rfl, HP, hbr⟩ := hrel
      have hsr := hbr.size
      by_cases hlt : k < L.length
      · have hli : (k : Int) < (L.length : Int) := by omega
        obtain ⟨g, o, rfl, hg, c0, c1, c2⟩ := (hA.below (hbr.mono hB)).t3 hlt
        have hsu := allT_take L k hlt
        have hno := fun h => allT_no (L := L) hlt h
        generalize L[k] = t at *
        have HS := Go.Lib.hid hsu
        have HN := Go.Lib.hid hno
        clear hsu hno
        go_wp2_with (first | (go_at_call 83; refine (within_any _ _ _ _).mono ?_; rintro e w' ⟨rfl, rfl⟩))
        all_goals first
          | (go_roundw
             case rel =>
               have hm : mayT t = true := by first | (simp [mayT, *]; done) | (have hr : inB t.r 0 16384 = true := (by simpa using (by assumption : (!inB t.r 0 16384) = false)); simp [mayT, *])
               exact ⟨k + 1, by omega, by go_num, Go.Lib.hid (by rw [HS.out, HP.out, hm]; rfl), hbr.alloc hsr _⟩
             case measure => simp [intOf]; omega)
          | (go_ret
             refine ⟨ret_int ?_, hbr.alloc hsr _⟩
             have hm : mayT t = false := by first | (simp [mayT, *]; done) | (have hr : inB t.r 0 16384 = false := (by simpa using (by assumption : (!inB t.r 0 16384) = true)); simp [mayT, hr])
             simp [chk, hbig, HN.out hm])
      · have hlt' : ¬ ((k : Int) < (L.length : Int)) := by omega
        have hkl : k = L.length := by omega
        go_wp2
        go_ret
        refine ⟨ret_int ?_, hbr⟩
        have := HP.out
        rw [hkl, List.take_length] at this
        simp [chk, hbig, this]

set_option maxHeartbeats 2000000 in
theorem rcheck_any (B : Nat) (A : Option Addr) (c : Nat) (L : List T3) (w : World) (hA : At B w A (t3s L)) (hB : B ≤ w.heap.size) (hl : L.length ≤ 9000000000000000000) :
    Calls Try.prog 71 #[.slice A L.length c] w fun e w' => e = .returned (.int .i64 (chk L)) ∧ Below w.heap.size w w' := by
  by_cases hbig : 1024 < L.length
  · rw [show chk L = 4 by simp [chk, hbig]]
    have hb : (1024 : Int) < (L.length : Int) := by omega
    go_enter Try.func71, Try.ntmps71
    go_wp2
    go_ret
    exact ⟨rfl, (by repeat (first | exact Below.refl _ _ | with_reducible refine Below.alloc ?_ (by first | (simp; done) | (simp; omega) | omega) _ | with_reducible refine Below.setCell ?_ (by first | (simp; done) | (simp; omega) | omega) _ | with_reducible refine Below.drew ?_ | with_reducible refine Below.trans ?_ (Below.mono (by assumption) (by first | (simp; done) | (simp; omega) | omega))))⟩
  · have hb : (L.length : Int) ≤ 1024 := by omega
    go_enter Try.func71, Try.ntmps71
    go_wp2
    go_loopw [3] (fun i wr => ∃ k : Nat, k ≤ L.length ∧ i = .int .i64 k ∧ Hid (allT (L.take k) = true) ∧ Below w.heap.size w wr) (fun i _ => L.length - (intOf i).toNat)
    case atStart => exact ⟨0, by omega, rfl, Go.Lib.hid rfl, Below.refl _ _⟩
    case round =>
      obtain ⟨k, hk, rfl, HP, hbr⟩ := hrel
      have hsr := hbr.size
      by_cases hlt : k < L.length
      · have hli : (k : Int) < (L.length : Int) := by omega
        obtain ⟨g, o, rfl, hg, c0, c1, c2⟩ := (hA.below (hbr.mono hB)).t3 hlt
        have hsu := allT_take L k hlt
        have hno := fun h => allT_no (L := L) hlt h
        generalize L[k] = t at *
        have HS := Go.Lib.hid hsu
        have HN := Go.Lib.hid hno
        clear hsu hno
        cases hm : mayT t
        all_goals
          have HM := Go.Lib.hid hm
          clear hm
          go_wp2_with fail
          refine (may_is HM.out _).mono ?_
          rintro e w2 ⟨rfl, hb2⟩
          go_wp2
          first
            | (go_roundw
               case rel => exact ⟨k + 1, by omega, by go_num, Go.Lib.hid (by rw [HS.out, HP.out, HM.out]; rfl), hbr.trans (hb2.mono hsr)⟩
               case measure => simp [intOf]; omega)
            | (go_ret
               refine ⟨ret_int ?_, hbr.trans (hb2.mono hsr)⟩
               simp [chk, hbig, HN.out HM.out])
      · have hlt' : ¬ ((k : Int) < (L.length : Int)) := by omega
        have hkl : k = L.length := by omega
        go_wp2
        go_ret
        refine ⟨ret_int ?_, hbr⟩
        have := HP.out
        rw [hkl, List.take_length] at this
        simp [chk, hbig, this]
end Go.Proofs.Ytjippgflempdmaa

/- One append, one make: of numbers, Bools, structs of three numbers (at this seat's types). -/
namespace Go.Proofs.Ytjippgflempdmaa
set_option linter.unusedVariables false
set_option linter.unusedSimpArgs false
set_option maxRecDepth 100000
open Go.RowKit

theorem info_int : (Try.prog.info? 3).map (fun i => (i.zero, i.size, i.bytes)) = some (some (.int .i64 0), 1, 8) := by kernel_rfl
theorem info_bool : (Try.prog.info? 4).map (fun i => (i.zero, i.size, i.bytes)) = some (some (.bool false), 1, 1) := by kernel_rfl
theorem info_track : (Try.prog.info? 99).map (fun i => (i.zero, i.size, i.bytes)) = some (some (.agg #[.int .i64 0, .int .i64 0, .int .i64 0]), 3, 24) := by kernel_rfl
theorem info_bound : (Try.prog.info? 96).map (fun i => (i.zero, i.size, i.bytes)) = some (some (.agg #[.int .i64 0, .int .i64 0, .int .i64 0]), 3, 24) := by kernel_rfl

section
variable {ops : Array Oper} {rest : List Oper} {o : Oper} {a : Act} {Q : Exit → Act → World → Prop} {w : World}
theorem append_int (hgd : o.guard = none) (s x : Operand) (ho : o.op = .call { callee := .builtin .append, args := #[s, x], argTypes := #[23, 23] }) (base : Nat) (v : Value) (l : List Int) (n : Int) (g : Nat)
    (hs : a.eval s = v) (hx : a.eval x = .slice (some ⟨g, 0, none⟩) 1 1) (hown : w.ownsRow base 3 1 v l.length (ints l)) (h0 : w.cell? ⟨g, 0, none⟩ = some (.int .i64 n)) (hn : l.length ≤ 1000000) (hbase : base ≤ w.heap.size)
    (h : ∀ v' w', w'.ownsRow base 3 1 v' (l ++ [n]).length (ints (l ++ [n])) → w.grownBy w' v.ownBlock → v' ≠ .slice none 0 0 → wpList Try.prog ops Q rest (a.put o.dst v') w') : wpList Try.prog ops Q (o :: rest) a w := by
  obtain ⟨i0, hi, hz0, hz1, hz2⟩ := info_parts info_int
  refine wpList_append_own w hgd s x 23 ho base 3 i0 _ 1 8 Try.underlying23 hi hz0 hz1 hz2 rfl (by decide) v l.length (ints l) hs hown ⟨g, 0, none⟩ 1 1 (ints [n]) hx rfl (fun j u hj => ?_) (ints_one _) (by unfold maxLen; omega) (by omega) hbase (fun v' w' h4 h5 h6 => ?_)
  · match j, hj with
    | 0, hj => simp [ints] at hj; subst hj; simpa [Addr.add] using h0
    | j + 1, hj => simp [ints] at hj
  · refine h v' w' (by rw [ints_append, List.length_append]; exact h4) h5 (fun e => ?_)
    have := (h6.1 e).2
    omega
theorem append_bool (hgd : o.guard = none) (s x : Operand) (ho : o.op = .call { callee := .builtin .append, args := #[s, x], argTypes := #[115, 115] }) (base : Nat) (v : Value) (l : List Bool) (n : Bool) (g : Nat)
    (hs : a.eval s = v) (hx : a.eval x = .slice (some ⟨g, 0, none⟩) 1 1) (hown : w.ownsRow base 4 1 v l.length (bools l)) (h0 : w.cell? ⟨g, 0, none⟩ = some (.bool n)) (hn : l.length ≤ 1000000) (hbase : base ≤ w.heap.size)
    (h : ∀ v' w', w'.ownsRow base 4 1 v' (l ++ [n]).length (bools (l ++ [n])) → w.grownBy w' v.ownBlock → v' ≠ .slice none 0 0 → wpList Try.prog ops Q rest (a.put o.dst v') w') : wpList Try.prog ops Q (o :: rest) a w := by
  obtain ⟨i0, hi, hz0, hz1, hz2⟩ := info_parts info_bool
  refine wpList_append_own w hgd s x 115 ho base 4 i0 _ 1 1 Try.underlying115 hi hz0 hz1 hz2 rfl (by decide) v l.length (bools l) hs hown ⟨g, 0, none⟩ 1 1 (bools [n]) hx rfl (fun j u hj => ?_) (bools_one _) (by unfold maxLen; omega) (by omega) hbase (fun v' w' h4 h5 h6 => ?_)
  · match j, hj with
    | 0, hj => simp [bools] at hj; subst hj; simpa [Addr.add] using h0
    | j + 1, hj => simp [bools] at hj
  · refine h v' w' (by rw [bools_append, List.length_append]; exact h4) h5 (fun e => ?_)
    have := (h6.1 e).2
    omega
/-- 'append(out, l...)', out nil or owned, l any slice (nil too). -/
theorem append_many {E S : TypeId} {size bytes : Nat} {i0 : TypeInfo} {z : Value} (hu : Try.prog.underlying S = some (.slice E)) (hi : Try.prog.info? E = some i0) (hz0 : i0.zero = some z) (hz1 : i0.size = size) (hz2 : i0.bytes = bytes) (hzs : z.cells.size = size) (hsz : 0 < size)
    (hgd : o.guard = none) (s x : Operand) (ho : o.op = .call { callee := .builtin .append, args := #[s, x], argTypes := #[S, S] }) (base : Nat) (v : Value) (n : Nat) (xs : List Value) (A : Option Addr) (m c B : Nat) (ys : List Value)
    (hs : a.eval s = v) (hx : a.eval x = .slice A m c) (hnil : A = none → m = 0 ∧ c = 0) (hown : w.ownsRow base E size v n xs) (hy : At B w A ys) (hyl : ys.length = m * size) (h1 : ∀ u ∈ ys, u.oneCell' = true) (h63 : n + m ≤ maxLen) (hbytes : (n + m) * bytes ≤ 140737488355328) (hbase : base ≤ w.heap.size)
    (h : ∀ v' w', w'.ownsRow base E size v' (n + m) (xs ++ ys) → w.grownBy w' v.ownBlock → wpList Try.prog ops Q rest (a.put o.dst v') w') : wpList Try.prog ops Q (o :: rest) a w := by
  cases A with
  | some ad =>
    refine wpList_append_own w hgd s x S ho base E i0 z size bytes hu hi hz0 hz1 hz2 hzs hsz v n xs hs hown ad m c ys hx hyl (fun j u hj => ?_) h1 h63 hbytes hbase (fun v' w' h4 h5 _ => h v' w' h4 h5)
    have hpos : 0 < ys.length := by
      have := (List.getElem?_eq_some_iff.1 hj).1
      omega
    obtain ⟨g, o', hA, hg, hc⟩ := hy hpos
    have := hc j u hj
    injection hA with hA
    subst hA
    by_cases h0 : j = 0
    · subst h0
      simpa [Addr.add] using this
    · simpa [Addr.add, h0] using this
  | none =>
    obtain ⟨rfl, rfl⟩ := hnil rfl
    have hys : ys = [] := List.eq_nil_of_length_eq_zero (by simpa using hyl)
    subst hys
    refine wpList_plain hgd fun K hK' => ?_
    obtain ⟨A', c', rfl⟩ := own_shape hown
    have hrun := run_append_owned_none (P := Try.prog) w base S o.type E i0 size hu hi _ n xs hown
    unfold Oper.wp
    simp [execOp, ho, resolve, invoke, builtin, hs, hx, hrun, Result.andThen]
    exact hK' _ _ (h _ w (by simpa using hown) (World.grownBy.refl _ _))
theorem make_ints (hgd : o.guard = none) (l c : Operand) (ho : o.op = Op.makeSlice 23 l c) (base n : Nat) (hl : a.eval l = .int .i64 (n : Int)) (hc : a.eval c = .int .i64 (n : Int)) (hn : n ≤ 1000000) (hbase : base ≤ w.heap.size)
    (h : ∀ w', w'.ownsRow base 3 1 (.slice (some ⟨w.heap.size, 0, none⟩) n n) n (ints (List.replicate n 0)) → w.grownBy w' none → wpList Try.prog ops Q rest (a.put o.dst (.slice (some ⟨w.heap.size, 0, none⟩) n n)) w') : wpList Try.prog ops Q (o :: rest) a w := by
  obtain ⟨i0, hi, hz0, hz1, hz2⟩ := info_parts info_int
  refine wpList_make_full w hgd l c 23 ho base 3 i0 _ 1 Try.underlying23 hi hz0 hz1 .i64 .i64 _ _ n hl hc rfl rfl (by rw [hz2]; omega) (by unfold maxLen; omega) hbase (fun w' h4 h5 => ?_)
  refine h w' ?_ h5
  have e : (madeCells (Value.int .i64 0).cells (n * 1)).toList = ints (List.replicate n 0) := by
    rw [Nat.mul_one]
    simp [ints, Value.cells, toList_madeCells_one]
  rw [← e]
  exact h4
end

/-! Plain words on lists by index. -/
theorem set_range {α : Type} (n k : Nat) (f : Nat → α) (v : α) : ((List.range n).map f).set k v = (List.range n).map (fun i => if i = k then v else f i) := by
  apply List.ext_getElem
  · simp
  · intro i h1 h2
    simp only [List.getElem_set, List.getElem_map, List.getElem_range]
    by_cases e : k = i
    · subst e
      simp
    · have e' : ¬ i = k := fun h => e h.symm
      simp [e, e']
theorem map_range_congr {α : Type} {n : Nat} {f g : Nat → α} (h : ∀ i, i < n → f i = g i) : (List.range n).map f = (List.range n).map g := List.map_congr_left fun i hi => h i (List.mem_range.1 hi)
theorem replicate_range {α : Type} (n : Nat) (v : α) : List.replicate n v = (List.range n).map fun _ => v := by
  apply List.ext_getElem
  · simp
  · intro i h1 h2
    simp
theorem range_snoc {α : Type} (n : Nat) (f : Nat → α) : (List.range (n + 1)).map f = (List.range n).map f ++ [f n] := by
  rw [List.range_succ, List.map_append]
  rfl
end Go.Proofs.Ytjippgflempdmaa

/- Layer 10: starts, begins; Same. -/
namespace Go.Proofs.Ytjippgflempdmaa
set_option linter.unusedVariables false
set_option linter.unusedSimpArgs false
set_option maxRecDepth 100000
open Go.RowKit
attribute [local go_sem] max_fold min_fold

def posL (S : List Int) (gap : Int) : Nat → Int
  | 0 => 0
  | k + 1 => posL S gap k + (S.getD k 0 + gap)
def startsL (S : List Int) (gap : Int) : List Int := (List.range S.length).map (posL S gap)
theorem startsL_len (S : List Int) (gap : Int) : (startsL S gap).length = S.length := by simp [startsL]
theorem getD_bd {S : List Int} {c : Int} (hS : ∀ n ∈ S, 0 ≤ n ∧ n ≤ c) (hc : 0 ≤ c) (k : Nat) : 0 ≤ S.getD k 0 ∧ S.getD k 0 ≤ c := by
  by_cases h : k < S.length
  · have := hS S[k] (List.getElem_mem h)
    simpa [List.getD, h] using this
  · simp [List.getD, h, hc]
theorem posL_bd {S : List Int} {gap : Int} (hS : ∀ n ∈ S, 0 ≤ n ∧ n ≤ 1000000000) (hg : 0 ≤ gap ∧ gap ≤ 16384) (k : Nat) : 0 ≤ posL S gap k ∧ posL S gap k ≤ k * 1000016384 := by
  induction k with
  | zero => simp [posL]
  | succ k ih =>
    have := getD_bd hS (by omega) k
    simp only [posL]
    omega
def IntsPost (l : List Int) (W : World) (e : Ending) (w' : World) : Prop := ∃ A c, e = .returned (.slice A l.length c) ∧ w'.ownsRow W.heap.size 3 1 (.slice A l.length c) l.length (ints l) ∧ Below W.heap.size W w'
theorem IntsPost.mk {l : List Int} {W w' : World} {A : Option Addr} {c n : Nat} (hl : l.length = n) (h : w'.ownsRow W.heap.size 3 1 (.slice A n c) n (ints l)) (hb : Below W.heap.size W w') : IntsPost l W (.returned (.slice A n c)) w' := by
  subst hl
  exact ⟨A, c, rfl, h, hb⟩

set_option maxHeartbeats 1000000 in
theorem starts_any (B : Nat) (A : Option Addr) (c : Nat) (S : List Int) (gap : Int) (w : World) (hA : At B w A (ints S)) (hB : B ≤ w.heap.size) (hl : S.length ≤ 1024) (hS : ∀ n ∈ S, 0 ≤ n ∧ n ≤ 1000000000) (hg : 0 ≤ gap ∧ gap ≤ 16384) :
    Calls Try.prog 85 #[.slice A S.length c, .int .i64 gap] w (IntsPost (startsL S gap) w) := by
  obtain ⟨n, hn⟩ : ∃ n, S.length = n := ⟨_, rfl⟩
  have hpb := posL_bd hS hg
  have HN := Go.Lib.hid hn
  have HS := Go.Lib.hid hS
  have HP := Go.Lib.hid hpb
  have hres : startsL S gap = (List.range n).map (posL S gap) := by rw [← hn]; rfl
  have HR := Go.Lib.hid hres
  have hln : n ≤ 1024 := by omega
  rw [hn]
  clear hn hS hpb hl hres
  go_enter Try.func85, Try.ntmps85
  go_wp2_with (first | (at_make; refine make_ints rfl (.tmp 10) (.tmp 10) rfl w.heap.size n rfl rfl ?_ ?_ ?_))
  · omega
  · omega
  intro w1 hown1 hgr1
  have hb1 : Below w.heap.size w w1 := (Below.refl _ _).grown hgr1 (Nat.le_refl _) (fun k hk => by cases hk)
  rw [replicate_range] at hown1
  clear hgr1
  go_wp2
  go_loopw [6, 14] (fun at_ i wr => ∃ k : Nat, k ≤ n ∧ i = .int .i64 k ∧ at_ = .int .i64 (posL S gap k) ∧ wr.ownsRow w.heap.size 3 1 (.slice (some ⟨w.heap.size, 0, none⟩) n n) n (ints ((List.range n).map fun i => if i < k then posL S gap i else 0)) ∧ Below w.heap.size w wr) (fun _ i _ => n - (intOf i).toNat)
  case atStart => exact ⟨0, by omega, rfl, rfl, by simpa using hown1, hb1⟩
  case round =>
    clear hown1 hb1
    obtain ⟨k, hk, rfl, rfl, hown, hbr⟩ := hrel
    have hpk := HP.out k
    have hp1 : posL S gap (k + 1) = posL S gap k + (S.getD k 0 + gap) := rfl
    by_cases hlt : k < n
    · have hli : (k : Int) < (n : Int) := by omega
      have hks : k < S.length := by have := HN.out; omega
      obtain ⟨g, o, rfl, hg', c0⟩ := (hA.below (hbr.mono hB)).int hks
      have hel := HS.out S[k] (List.getElem_mem hks)
      have hgd : S.getD k 0 = S[k] := by simp [List.getD, hks]
      rw [hgd] at hp1
      generalize S[k] = s at *
      have hcell := hown.cellAt k (by omega)
      rw [ints_at _ k (by simpa using hlt)] at hcell
      have hfr := hown.frozenAt k
      have hst := own_store hown k (.int .i64 (posL S gap k))
      rw [ints_set, set_range] at hst
      have hpe : ((List.range n).map fun i => if i = k then posL S gap k else if i < k then posL S gap i else 0) = (List.range n).map fun i => if i < k + 1 then posL S gap i else 0 := map_range_congr fun i _ => by
        by_cases e : i = k
        · subst e
          simp
        · have : (i < k + 1) = (i < k) := by simp; omega
          simp [e, this]
      rw [hpe] at hst
      have hbs := hbr.setCell (p := ⟨w.heap.size, k, none⟩) (Nat.le_refl _) (.int .i64 (posL S gap k))
      have HST := Go.Lib.hid hst
      have HP1 := Go.Lib.hid hp1
      clear hp1 hst hpe hown hgd
      generalize posL S gap k = P at *
      go_wp2
      go_roundw
      case rel => exact ⟨k + 1, by omega, by go_num, by rw [HP1.out], HST.out, hbs⟩
      case measure => simp [intOf]; omega
    · have hlt' : ¬ ((k : Int) < (n : Int)) := by omega
      have hkn : k = n := by omega
      clear hp1
      go_wp2
      go_ret
      rw [HR.out]
      have e : ((List.range n).map fun i => if i < k then posL S gap i else 0) = (List.range n).map (posL S gap) := map_range_congr fun i hi => by rw [if_pos (by omega)]
      rw [e] at hown
      exact IntsPost.mk (by simp) hown hbr

set_option maxHeartbeats 1000000 in
theorem begins_any (B : Nat) (A : Option Addr) (c : Nat) (S : List Int) (gap : Int) (w : World) (hA : At B w A (ints S)) (hB : B ≤ w.heap.size) (hl : S.length ≤ 1024) (hS : ∀ n ∈ S, 0 ≤ n ∧ n ≤ 1000000000) (hg : 0 ≤ gap ∧ gap ≤ 16384) :
    Calls Try.prog 75 #[.slice A S.length c, .int .i64 gap] w (IntsPost (startsL S gap) w) := by
  obtain ⟨n, hn⟩ : ∃ n, S.length = n := ⟨_, rfl⟩
  have hpb := posL_bd hS hg
  have HN := Go.Lib.hid hn
  have HS := Go.Lib.hid hS
  have HP := Go.Lib.hid hpb
  have hres : startsL S gap = (List.range n).map (posL S gap) := by rw [← hn]; rfl
  have HR := Go.Lib.hid hres
  have hln : n ≤ 1024 := by omega
  rw [hn]
  clear hn hS hpb hl hres
  go_enter Try.func75, Try.ntmps75
  go_wp2
  go_loopw [5, 6, 7] (fun out at_ i wr => ∃ (k : Nat) (A' : Option Addr) (c' : Nat), k ≤ n ∧ i = .int .i64 k ∧ at_ = .int .i64 (posL S gap k) ∧ out = .slice A' k c' ∧ wr.ownsRow w.heap.size 3 1 (.slice A' k c') k (ints ((List.range k).map (posL S gap))) ∧ Below w.heap.size w wr) (fun _ _ i _ => n - (intOf i).toNat)
  case atStart => exact ⟨0, none, 0, by omega, rfl, rfl, rfl, World.ownsRow_nil _ _ _ _, Below.refl _ _⟩
  case round =>
    obtain ⟨k, A', c', hk, rfl, rfl, rfl, hown, hbr⟩ := hrel
    have hsr := hbr.size
    have hpk := HP.out k
    have hp1 : posL S gap (k + 1) = posL S gap k + (S.getD k 0 + gap) := rfl
    by_cases hlt : k < n
    · have hli : (k : Int) < (n : Int) := by omega
      have hks : k < S.length := by have := HN.out; omega
      obtain ⟨g, o, rfl, hg', c0⟩ := (hA.below (hbr.mono hB)).int hks
      have hel := HS.out S[k] (List.getElem_mem hks)
      have hgd : S.getD k 0 = S[k] := by simp [List.getD, hks]
      rw [hgd] at hp1
      generalize S[k] = s at *
      have hsn := range_snoc k (posL S gap)
      have HSN := Go.Lib.hid hsn
      have HP1 := Go.Lib.hid hp1
      have hlm : ((List.range k).map (posL S gap)).length = k := by simp
      clear hp1 hsn hgd
      generalize (List.range k).map (posL S gap) = M at *
      generalize posL S gap k = P at *
      subst hlm
      go_wp2_with (first | (at_builtin; refine append_int rfl (.tmp 14) (.tmp 16) rfl w.heap.size _ M P wr.heap.size rfl rfl (hown.alloc _) (by simp [go_sem]) ?_ ?_ ?_))
      · omega
      · simp; omega
      intro v2 w2 hown2 hg2 _
      obtain ⟨A2, c2, rfl⟩ := own_shape hown2
      have hb2 : Below w.heap.size w w2 := (hbr.alloc hsr _).grown hg2 (by simp; omega) (own_ge hown)
      have c0' : w2.cell? ⟨g, o + M.length, none⟩ = some (.int .i64 s) := by
        rw [hb2.cell (p := ⟨g, o + M.length, none⟩) (by simp only; omega), ← hbr.cell (p := ⟨g, o + M.length, none⟩) (by simp only; omega)]
        exact c0
      clear hg2 hown
      go_wp2
      go_roundw
      case rel => exact ⟨M.length + 1, A2, c2, by omega, by go_num, by rw [HP1.out]; first | rfl | go_num, by first | rfl | (rw [List.length_append]; rfl), by rw [HSN.out]; first | exact hown2 | (rw [List.length_append] at hown2; exact hown2), hb2⟩
      case measure => simp [intOf]; omega
    · have hlt' : ¬ ((k : Int) < (n : Int)) := by omega
      have hkn : k = n := by omega
      subst hkn
      clear hp1
      go_wp2
      go_ret
      rw [HR.out]
      exact IntsPost.mk (by simp) hown hbr

/-! Same: two lists of numbers. -/
end Go.Proofs.Ytjippgflempdmaa

/- Layer 10: Need, Most, Starts, both sides. (Printed by gen_c.py.) -/
namespace Go.Proofs.Ytjippgflempdmaa
set_option linter.unusedVariables false
set_option linter.unusedSimpArgs false
set_option maxRecDepth 100000
open Go.RowKit
attribute [local go_sem] max_fold min_fold

theorem chk_ok {L : List T3} (h : chk L = 0) : L.length ≤ 1024 ∧ ∀ t ∈ L, mayT t = true := by
  unfold chk at h
  split at h
  · omega
  · split at h
    · rename_i ha
      exact ⟨by omega, fun t ht => List.all_eq_true.1 ha t ht⟩
    · omega
theorem chk_is (L : List T3) : chk L = 0 ∨ chk L = 4 ∨ chk L = 100 := by
  unfold chk
  split
  · omega
  · split <;> omega
def sumP : List T3 → Int
  | [] => 0
  | t :: L => t.p + sumP L
theorem sumP_append (L M : List T3) : sumP (L ++ M) = sumP L + sumP M := by
  induction L with
  | nil => simp [sumP]
  | cons t L ih => simp only [List.cons_append, sumP, ih]; omega
theorem sumP_take (L : List T3) (k : Nat) (h : k < L.length) : sumP (L.take (k + 1)) = sumP (L.take k) + L[k].p := by
  rw [List.take_succ_eq_append_getElem h, sumP_append]
  simp [sumP]
theorem sumP_bd {L : List T3} (h : ∀ t ∈ L, mayT t = true) : 0 ≤ sumP L ∧ sumP L ≤ L.length * 16384 := by
  induction L with
  | nil => simp [sumP]
  | cons t L ih =>
    have h1 := ih fun t ht => h t (by simp [ht])
    have h2 := (mayT_iff t).1 (h t (by simp))
    simp only [sumP, List.length_cons]
    omega
def needR (L : List T3) : Int := if chk L = 0 then sumP L else 0
def mostG : List T3 → Int → Int
  | [], n => n
  | t :: L, n => if t.r = 0 then mostG L (n + t.p) else if t.q = 0 then -1 else mostG L (n + t.q)
theorem mostG_drop (L : List T3) (k : Nat) (h : k < L.length) (n : Int) : mostG (L.drop k) n = if L[k].r = 0 then mostG (L.drop (k + 1)) (n + L[k].p) else if L[k].q = 0 then -1 else mostG (L.drop (k + 1)) (n + L[k].q) := by
  rw [List.drop_eq_getElem_cons h]
  rfl
def mostR (L : List T3) : Int := if chk L = 0 then mostG L 0 else 0
theorem track_bd {L : List T3} (h : ∀ t ∈ L, mayT t = true) {k : Nat} (hk : k < L.length) : (0 ≤ L[k].p ∧ L[k].p ≤ 16384) ∧ (0 ≤ L[k].q ∧ L[k].q ≤ 16384) ∧ (0 ≤ L[k].r ∧ L[k].r ≤ 16384) := by
  have := (mayT_iff L[k]).1 (h _ (List.getElem_mem hk))
  omega
def okS (S : List Int) : Bool := S.all fun n => inB n 0 32768
def startsE (S : List Int) (gap : Int) : Int := if 1024 < S.length then 4 else if okS S && inB gap 0 16384 then 0 else 2
def startsR (S : List Int) (gap : Int) : List Int := if startsE S gap = 0 then startsL S gap else []
theorem okS_take (S : List Int) (k : Nat) (h : k < S.length) : okS (S.take (k + 1)) = (okS (S.take k) && inB S[k] 0 32768) := by
  rw [List.take_succ_eq_append_getElem h]
  simp only [okS, List.all_append, List.all_cons, List.all_nil, Bool.and_true]
theorem okS_no {S : List Int} {k : Nat} (h : k < S.length) (hm : inB S[k] 0 32768 = false) : okS S = false := by
  rw [Bool.eq_false_iff]
  intro ha
  have := (List.all_eq_true.1 ha) S[k] (List.getElem_mem h)
  rw [hm] at this
  cases this
def IntsE (l : List Int) (err : Int) (W : World) (e : Ending) (w' : World) : Prop := ∃ A c, e = .returned (.tuple #[.slice A l.length c, .int .i64 err]) ∧ w'.ownsRow W.heap.size 3 1 (.slice A l.length c) l.length (ints l) ∧ Below W.heap.size W w'
theorem IntsE.none {err : Int} {W w' : World} (hb : Below W.heap.size W w') : IntsE [] err W (.returned (.tuple #[.slice none 0 0, .int .i64 err])) w' := ⟨Option.none, 0, rfl, World.ownsRow_nil _ _ _ _, hb⟩
theorem IntsE.mk {l : List Int} {err : Int} {W W1 w' : World} {A : Option Addr} {c : Nat} (h : w'.ownsRow W1.heap.size 3 1 (.slice A l.length c) l.length (ints l)) (hs : W.heap.size ≤ W1.heap.size) (hb : Below W.heap.size W w') : IntsE l err W (.returned (.tuple #[.slice A l.length c, .int .i64 err])) w' := ⟨A, c, rfl, own_mono h hs, hb⟩

end Go.Proofs.Ytjippgflempdmaa

/- Layer 10: sharing out, in plain Lean: who takes part is a list of numbers. -/
namespace Go.Proofs.Ytjippgflempdmaa
set_option linter.unusedVariables false
set_option linter.unusedSimpArgs false
set_option maxRecDepth 100000
open Go.RowKit

def tk (L : List T3) (i : Nat) : T3 := L.getD i ⟨0, 0, 0⟩
theorem tk_at {L : List T3} {i : Nat} (h : i < L.length) : tk L i = L[i] := by simp [tk, List.getD, h]
def sumN (f : Nat → Int) : List Nat → Int
  | [] => 0
  | i :: P => f i + sumN f P
theorem sumN_append (f : Nat → Int) (P Q : List Nat) : sumN f (P ++ Q) = sumN f P + sumN f Q := by
  induction P with
  | nil => simp [sumN]
  | cons i P ih => simp only [List.cons_append, sumN, ih]; omega
theorem sumN_take (f : Nat → Int) (P : List Nat) (k : Nat) (h : k < P.length) : sumN f (P.take (k + 1)) = sumN f (P.take k) + f P[k] := by
  rw [List.take_succ_eq_append_getElem h, sumN_append]
  simp [sumN]
theorem sumN_bd {f : Nat → Int} {c d : Int} {P : List Nat} (h : ∀ i ∈ P, c ≤ f i ∧ f i ≤ d) : P.length * c ≤ sumN f P ∧ sumN f P ≤ P.length * d := by
  induction P with
  | nil => simp [sumN]
  | cons i P ih =>
    have h1 := ih fun i hi => h i (by simp [hi])
    have h2 := h i (by simp)
    simp only [sumN, List.length_cons]
    have e1 : ((P.length + 1 : Nat) : Int) * c = P.length * c + c := by rw [Int.natCast_succ, Int.add_mul]; omega
    have e2 : ((P.length + 1 : Nat) : Int) * d = P.length * d + d := by rw [Int.natCast_succ, Int.add_mul]; omega
    omega
theorem sumN_le {f g : Nat → Int} {P : List Nat} (h : ∀ i ∈ P, f i ≤ g i) : sumN f P ≤ sumN g P := by
  induction P with
  | nil => simp [sumN]
  | cons i P ih =>
    have h1 := ih fun i hi => h i (by simp [hi])
    have h2 := h i (by simp)
    simp only [sumN]
    omega
theorem sumN_mul (f : Nat → Int) (c : Int) (P : List Nat) : sumN (fun i => c * f i) P = c * sumN f P := by
  induction P with
  | nil => simp [sumN]
  | cons i P ih => simp only [sumN, ih, Int.mul_add]
theorem sumN_congr {f g : Nat → Int} {P : List Nat} (h : ∀ i ∈ P, f i = g i) : sumN f P = sumN g P := by
  induction P with
  | nil => rfl
  | cons i P ih =>
    simp only [sumN]
    rw [ih fun i hi => h i (by simp [hi]), h i (by simp)]
theorem sumN_filter (f : Nat → Int) (p : Nat → Bool) (P : List Nat) : sumN f (P.filter p) = sumN (fun i => if p i then f i else 0) P := by
  induction P with
  | nil => rfl
  | cons i P ih =>
    simp only [List.filter_cons]
    split
    · rename_i h
      simp [sumN, ih, h]
    · rename_i h
      simp [sumN, ih, h]

def gP (L : List T3) (P : List Nat) : Int := sumN (fun i => (tk L i).r) P
def fullP (L : List T3) (left g : Int) (i : Nat) : Bool := !((tk L i).q == 0) && decide (g * ((tk L i).q - (tk L i).p) ≤ left * (tk L i).r)
def fillO (L : List T3) (left g : Int) (O : List Int) (i : Nat) : List Int := if fullP L left g i then O.set i (tk L i).q else O
def usedP (L : List T3) (left g : Int) (P : List Nat) : Int := sumN (fun i => if fullP L left g i then (tk L i).q - (tk L i).p else 0) P
def restP (L : List T3) (left g : Int) (P : List Nat) : List Nat := P.filter fun i => !fullP L left g i
def growO (L : List T3) (left g : Int) (O : List Int) (i : Nat) : List Int := O.set i (O.getD i 0 + left * (tk L i).r / g)
def spentP (L : List T3) (left g : Int) (P : List Nat) : Int := sumN (fun i => left * (tk L i).r / g) P
def bumpO (O : List Int) (i : Nat) : List Int := O.set i (O.getD i 0 + 1)
def doneP (L : List T3) (left : Int) (P : List Nat) (O : List Int) : List Int := (P.take (left - spentP L left (gP L P) P).toNat).foldl bumpO (P.foldl (growO L left (gP L P)) O)
def roundsP (L : List T3) : Nat → Int → List Nat → List Int → List Int
  | 0, _, _, O => O
  | f + 1, left, P, O => if P = [] then O else if (restP L left (gP L P) P).length = P.length then doneP L left P O else
      roundsP L f (left - usedP L left (gP L P) P) (restP L left (gP L P) P) (P.foldl (fillO L left (gP L P)) O)
def startP (L : List T3) : List Nat := (List.range L.length).filter fun i => decide (0 < (tk L i).r)
def shareP (L : List T3) (room : Int) : List Int := if room - sumP L ≤ 0 then L.map (·.p) else roundsP L (L.length + 1) (room - sumP L) (startP L) (L.map (·.p))

theorem foldl_take {α β : Type} (f : β → α → β) (b : β) (l : List α) (k : Nat) (h : k < l.length) : (l.take (k + 1)).foldl f b = f ((l.take k).foldl f b) l[k] := by
  rw [List.take_succ_eq_append_getElem h, List.foldl_append]
  rfl
theorem rest_take (L : List T3) (left g : Int) (P : List Nat) (k : Nat) (h : k < P.length) : restP L left g (P.take (k + 1)) = restP L left g (P.take k) ++ if fullP L left g P[k] then [] else [P[k]] := by
  rw [List.take_succ_eq_append_getElem h]
  unfold restP
  rw [List.filter_append]
  congr 1
  cases hf : fullP L left g P[k] <;> simp [hf]
theorem rest_le (L : List T3) (left g : Int) (P : List Nat) : (restP L left g P).length ≤ P.length := List.length_filter_le _ _
theorem fold_len {α : Type} (f : List Int → α → List Int) (hf : ∀ O i, (f O i).length = O.length) (P : List α) : ∀ O, (P.foldl f O).length = O.length := by
  induction P with
  | nil => exact fun _ => rfl
  | cons i P ih => exact fun O => (ih _).trans (hf O i)
theorem fill_len (L : List T3) (left g : Int) (O : List Int) (i : Nat) : (fillO L left g O i).length = O.length := by
  unfold fillO
  split <;> simp
theorem grow_len (L : List T3) (left g : Int) (O : List Int) (i : Nat) : (growO L left g O i).length = O.length := by simp [growO]
theorem bump_len (O : List Int) (i : Nat) : (bumpO O i).length = O.length := by simp [bumpO]

/-- What holds at each round. -/
structure ShInv (L : List T3) (left : Int) (P : List Nat) (O : List Int) : Prop where
  may : ∀ t ∈ L, mayT t = true
  left : 0 ≤ left ∧ left ≤ 32768
  idx : ∀ i ∈ P, i < L.length ∧ 0 < (tk L i).r
  nodup : P.Nodup
  len : O.length = L.length
  out : ∀ o ∈ O, 0 ≤ o ∧ o ≤ 16384
theorem tk_bd {L : List T3} (h : ∀ t ∈ L, mayT t = true) (i : Nat) : (0 ≤ (tk L i).p ∧ (tk L i).p ≤ 16384) ∧ ((tk L i).q = 0 ∨ (tk L i).p ≤ (tk L i).q ∧ (tk L i).q ≤ 16384) ∧ (0 ≤ (tk L i).r ∧ (tk L i).r ≤ 16384) := by
  by_cases hi : i < L.length
  · rw [tk_at hi]
    exact (mayT_iff _).1 (h _ (List.getElem_mem hi))
  · simp [tk, List.getD, hi]
theorem nodup_len {P : List Nat} {n : Nat} (hn : P.Nodup) (h : ∀ i ∈ P, i < n) : P.length ≤ n := by
  have h1 : P ⊆ List.range n := fun i hi => List.mem_range.2 (h i hi)
  have := hn.length_le_of_subset h1
  simpa using this
theorem ShInv.plen {L : List T3} {left : Int} {P : List Nat} {O : List Int} (h : ShInv L left P O) : P.length ≤ L.length := nodup_len h.nodup fun i hi => (h.idx i hi).1
theorem g_pos {L : List T3} {P : List Nat} (h : ∀ i ∈ P, i < L.length ∧ 0 < (tk L i).r) : P.length ≤ gP L P := by
  have := (sumN_bd (f := fun i => (tk L i).r) (c := 1) (d := sumN (fun i => (tk L i).r) P) (P := P) (fun i hi => ⟨by have := (h i hi).2; omega, by
    have : ∀ Q : List Nat, (∀ j ∈ Q, 0 < (tk L j).r) → i ∈ Q → (tk L i).r ≤ sumN (fun i => (tk L i).r) Q := by
      intro Q
      induction Q with
      | nil => intro _ hi; cases hi
      | cons j Q ih =>
        intro hq hi
        simp only [sumN]
        have hrest : 0 ≤ sumN (fun i => (tk L i).r) Q := by
          have := (sumN_bd (f := fun i => (tk L i).r) (c := 0) (d := 0 + sumN (fun i => (tk L i).r) Q) (P := []) (fun _ h => by cases h)).1
          clear this
          clear ih hi
          induction Q with
          | nil => simp [sumN]
          | cons m Q ih2 =>
            have h1 := hq m (by simp)
            have h2 := ih2 fun x hx => hq x (by
              rcases List.mem_cons.1 hx with rfl | hx
              · simp
              · simp [hx])
            simp only [sumN]
            omega
        rcases List.mem_cons.1 hi with rfl | hi
        · omega
        · have h1 := ih (fun x hx => hq x (by simp [hx])) hi
          have h2 := hq j (by simp)
          omega
    exact this P (fun j hj => (h j hj).2) hi⟩)).1
  unfold gP
  omega
end Go.Proofs.Ytjippgflempdmaa

/- Layer 10: sharing out, in plain Lean: bounds, and what holds at each round. -/
namespace Go.Proofs.Ytjippgflempdmaa
set_option linter.unusedVariables false
set_option linter.unusedSimpArgs false
set_option maxRecDepth 100000
open Go.RowKit

theorem sumN_nonneg {f : Nat → Int} {P : List Nat} (h : ∀ i ∈ P, 0 ≤ f i) : 0 ≤ sumN f P := by
  induction P with
  | nil => simp [sumN]
  | cons i P ih =>
    have h1 := ih fun i hi => h i (by simp [hi])
    have h2 := h i (by simp)
    simp only [sumN]
    omega
theorem sumN_const (c : Int) (P : List Nat) : sumN (fun _ => c) P = P.length * c := by
  induction P with
  | nil => simp [sumN]
  | cons i P ih =>
    simp only [sumN, ih, List.length_cons]
    rw [Int.natCast_succ, Int.add_mul]
    omega
theorem sumN_add (f g : Nat → Int) (P : List Nat) : sumN (fun i => f i + g i) P = sumN f P + sumN g P := by
  induction P with
  | nil => simp [sumN]
  | cons i P ih => simp only [sumN, ih]; omega
theorem member_le {L : List T3} {P : List Nat} (h : ∀ t ∈ L, mayT t = true) {i : Nat} (hi : i ∈ P) : (tk L i).r ≤ gP L P := by
  unfold gP
  induction P with
  | nil => cases hi
  | cons j P ih =>
    simp only [sumN]
    have h1 : 0 ≤ sumN (fun i => (tk L i).r) P := sumN_nonneg fun i _ => (tk_bd h i).2.2.1
    have h2 := (tk_bd h j).2.2.1
    rcases List.mem_cons.1 hi with rfl | hi
    · omega
    · have := ih hi
      omega
theorem g_bd {L : List T3} {left : Int} {P : List Nat} {O : List Int} (h : ShInv L left P O) : P.length ≤ gP L P ∧ gP L P ≤ P.length * 16384 :=
  ⟨g_pos h.idx, (sumN_bd (c := 0) fun i _ => (tk_bd h.may i).2.2).2⟩
theorem part_bd {L : List T3} {left g : Int} (hl : 0 ≤ left) {i : Nat} (hr : 0 ≤ (tk L i).r) (hg : (tk L i).r ≤ g) (h0 : 0 < g) : 0 ≤ left * (tk L i).r / g ∧ left * (tk L i).r / g ≤ left := by
  have h1 : 0 ≤ left * (tk L i).r := Int.mul_nonneg hl hr
  refine ⟨Int.ediv_nonneg h1 (by omega), ?_⟩
  apply Int.le_of_mul_le_mul_left (a := g) _ h0
  have h2 := Int.mul_ediv_self_le (x := left * (tk L i).r) (k := g) (by omega)
  have h3 : left * (tk L i).r ≤ left * g := Int.mul_le_mul_of_nonneg_left hg hl
  rw [Int.mul_comm left g] at h3
  omega
theorem used_bd {L : List T3} {left : Int} {P : List Nat} {O : List Int} (h : ShInv L left P O) : 0 ≤ usedP L left (gP L P) P ∧ usedP L left (gP L P) P ≤ left := by
  constructor
  · refine sumN_nonneg fun i _ => ?_
    try dsimp only
    split
    · rename_i hf
      have := tk_bd h.may i
      simp [fullP] at hf
      omega
    · omega
  · by_cases hP : P = []
    · subst hP
      simpa [usedP, sumN] using h.left.1
    · have hpos : 0 < P.length := List.length_pos_iff.2 hP
      have hg := g_bd h
      apply Int.le_of_mul_le_mul_left (a := gP L P) _ (by omega)
      have key : gP L P * usedP L left (gP L P) P = sumN (fun i => gP L P * (if fullP L left (gP L P) i then (tk L i).q - (tk L i).p else 0)) P := (sumN_mul _ _ _).symm
      have rhs : sumN (fun i => left * (tk L i).r) P = left * gP L P := sumN_mul _ _ _
      have h1 : sumN (fun i => gP L P * (if fullP L left (gP L P) i then (tk L i).q - (tk L i).p else 0)) P ≤ sumN (fun i => left * (tk L i).r) P := sumN_le fun i _ => by
        try dsimp only
        split
        · rename_i hf
          simp [fullP] at hf
          exact hf.2
        · have := (tk_bd h.may i).2.2.1
          have := Int.mul_nonneg h.left.1 this
          omega
      rw [Int.mul_comm left] at rhs
      omega
theorem spent_bd {L : List T3} {left : Int} {P : List Nat} {O : List Int} (h : ShInv L left P O) (hP : P ≠ []) : 0 ≤ left - spentP L left (gP L P) P ∧ left - spentP L left (gP L P) P < P.length := by
  have hpos : 0 < P.length := List.length_pos_iff.2 hP
  have hg := g_bd h
  have h0 : 0 < gP L P := by omega
  have key : gP L P * spentP L left (gP L P) P = sumN (fun i => gP L P * (left * (tk L i).r / gP L P)) P := by rw [sumN_mul]; rfl
  have rhs : sumN (fun i => left * (tk L i).r) P = left * gP L P := sumN_mul _ _ _
  rw [Int.mul_comm left] at rhs
  have h1 : sumN (fun i => gP L P * (left * (tk L i).r / gP L P)) P ≤ sumN (fun i => left * (tk L i).r) P := sumN_le fun i _ => Int.mul_ediv_self_le (by omega)
  have h2 : sumN (fun i => left * (tk L i).r) P ≤ sumN (fun i => gP L P * (left * (tk L i).r / gP L P) + (gP L P - 1)) P := sumN_le fun i _ => by
    try dsimp only
    have := Int.mul_ediv_add_emod (left * (tk L i).r) (gP L P)
    have := Int.emod_lt_of_pos (left * (tk L i).r) h0
    omega
  have e2 : sumN (fun i => gP L P * (left * (tk L i).r / gP L P) + (gP L P - 1)) P = sumN (fun i => gP L P * (left * (tk L i).r / gP L P)) P + P.length * (gP L P - 1) := by
    rw [sumN_add, sumN_const]
  constructor
  · have : gP L P * spentP L left (gP L P) P ≤ gP L P * left := by omega
    have := Int.le_of_mul_le_mul_left this h0
    omega
  · have h3 : gP L P * left ≤ gP L P * spentP L left (gP L P) P + P.length * (gP L P - 1) := by omega
    have h4 : (P.length : Int) * (gP L P - 1) < gP L P * P.length := by
      rw [Int.mul_sub, Int.mul_one, Int.mul_comm]
      omega
    have h5 : gP L P * left < gP L P * (spentP L left (gP L P) P + P.length) := by
      rw [Int.mul_add]
      omega
    have := Int.lt_of_mul_lt_mul_left h5 (by omega)
    omega
theorem set_mem {O : List Int} {i : Nat} {v : Int} {Q : Int → Prop} (h : ∀ o ∈ O, Q o) (hv : Q v) : ∀ o ∈ O.set i v, Q o := by
  intro o ho
  rcases List.mem_or_eq_of_mem_set ho with h1 | h1
  · exact h o h1
  · rw [h1]
    exact hv
theorem fill_out {L : List T3} {left g : Int} (hm : ∀ t ∈ L, mayT t = true) (P : List Nat) : ∀ O : List Int, (∀ o ∈ O, 0 ≤ o ∧ o ≤ 16384) → ∀ o ∈ P.foldl (fillO L left g) O, 0 ≤ o ∧ o ≤ 16384 := by
  induction P with
  | nil => exact fun _ h => h
  | cons i P ih =>
    intro O h
    refine ih _ ?_
    unfold fillO
    split
    · have := tk_bd hm i
      exact set_mem h (by omega)
    · exact h
theorem ShInv.step {L : List T3} {left : Int} {P : List Nat} {O : List Int} (h : ShInv L left P O) : ShInv L (left - usedP L left (gP L P) P) (restP L left (gP L P) P) (P.foldl (fillO L left (gP L P)) O) := by
  have hu := used_bd h
  refine ⟨h.may, ?_, fun i hi => h.idx i (List.mem_filter.1 hi).1, h.nodup.filter _, ?_, fill_out h.may P O h.out⟩
  · have := h.left
    omega
  · rw [fold_len _ (fill_len L left _), h.len]
theorem getD_mem {O : List Int} {Q : Int → Prop} (h : ∀ o ∈ O, Q o) (h0 : Q 0) (i : Nat) : Q (O.getD i 0) := by
  by_cases hi : i < O.length
  · simpa [List.getD, hi] using h _ (List.getElem_mem hi)
  · simpa [List.getD, hi] using h0
theorem grow_out {L : List T3} {left g : Int} (P : List Nat) (hp : ∀ i ∈ P, 0 ≤ left * (tk L i).r / g ∧ left * (tk L i).r / g ≤ 32768) : ∀ (O : List Int) (c : Int), 0 ≤ c → (∀ o ∈ O, 0 ≤ o ∧ o ≤ c) → ∀ o ∈ P.foldl (growO L left g) O, 0 ≤ o ∧ o ≤ c + P.length * 32768 := by
  induction P with
  | nil =>
    intro O c _ h
    simpa using h
  | cons i P ih =>
    intro O c hc h o ho
    have h1 := hp i (by simp)
    have h2 := getD_mem (Q := fun o => 0 ≤ o ∧ o ≤ c) h ⟨by omega, hc⟩ i
    have := ih (fun j hj => hp j (by simp [hj])) (growO L left g O i) (c + 32768) (by omega) (set_mem (fun o ho => by have := h o ho; omega) (by omega)) o ho
    simp only [List.length_cons]
    omega
theorem bump_out (P : List Nat) : ∀ (O : List Int) (c : Int), 0 ≤ c → (∀ o ∈ O, 0 ≤ o ∧ o ≤ c) → ∀ o ∈ P.foldl bumpO O, 0 ≤ o ∧ o ≤ c + P.length := by
  induction P with
  | nil =>
    intro O c _ h
    simpa using h
  | cons i P ih =>
    intro O c hc h o ho
    have h2 := getD_mem (Q := fun o => 0 ≤ o ∧ o ≤ c) h ⟨by omega, hc⟩ i
    have := ih (bumpO O i) (c + 1) (by omega) (set_mem (fun o ho => by have := h o ho; omega) (by omega)) o ho
    simp only [List.length_cons]
    omega
theorem rest_same {L : List T3} {left g : Int} {P : List Nat} (h : (restP L left g P).length = P.length) : restP L left g P = P ∧ ∀ i ∈ P, fullP L left g i = false := by
  have h1 : ∀ i ∈ P, (!fullP L left g i) = true := List.length_filter_eq_length_iff.1 h
  refine ⟨List.filter_eq_self.2 h1, fun i hi => by simpa using h1 i hi⟩
theorem fill_same {L : List T3} {left g : Int} {P : List Nat} (h : ∀ i ∈ P, fullP L left g i = false) : ∀ O, P.foldl (fillO L left g) O = O := by
  induction P with
  | nil => exact fun _ => rfl
  | cons i P ih =>
    intro O
    simp only [List.foldl_cons]
    rw [show fillO L left g O i = O by simp [fillO, h i (by simp)]]
    exact ih (fun j hj => h j (by simp [hj])) O
theorem ShInv.start {L : List T3} {room : Int} (hm : ∀ t ∈ L, mayT t = true) (hr : 0 ≤ room ∧ room ≤ 32768) (h : ¬ room - sumP L ≤ 0) : ShInv L (room - sumP L) (startP L) (L.map (·.p)) := by
  have hs := sumP_bd hm
  refine ⟨hm, by omega, fun i hi => ?_, ?_, by simp, fun o ho => ?_⟩
  · obtain ⟨h1, h2⟩ := List.mem_filter.1 hi
    exact ⟨List.mem_range.1 h1, by simpa using h2⟩
  · exact List.nodup_range.filter _
  · obtain ⟨t, ht, rfl⟩ := List.mem_map.1 ho
    have := (mayT_iff t).1 (hm t ht)
    omega
end Go.Proofs.Ytjippgflempdmaa

/- Layer 10: what memory holds while room is shared out: the row that is answered, the row of those who take part. -/
namespace Go.Proofs.Ytjippgflempdmaa
set_option linter.unusedVariables false
set_option linter.unusedSimpArgs false
set_option maxRecDepth 100000
open Go.RowKit

def nats (P : List Nat) : List Int := P.map Int.ofNat
theorem nats_len (P : List Nat) : (nats P).length = P.length := by simp [nats]
theorem nats_append (P Q : List Nat) : nats (P ++ Q) = nats P ++ nats Q := by simp [nats]
theorem nats_at (P : List Nat) (k : Nat) (h : k < P.length) : (nats P)[k]'(by rw [nats_len]; exact h) = (P[k] : Int) := by simp [nats]
def outV (w : World) (n : Nat) : Value := .slice (some ⟨w.heap.size, 0, none⟩) n n
structure ShMem (B : Nat) (w : World) (A : Option Addr) (L : List T3) (n : Nat) (O : List Int) (wr : World) : Prop where
  below : Below w.heap.size w wr
  arg : At B wr A (t3s L)
  out : wr.ownsRow w.heap.size 3 1 (.slice (some ⟨w.heap.size, 0, none⟩) n n) n (ints O)
  size : w.heap.size + 1 ≤ wr.heap.size
def PRow (M : Nat) (wr : World) (v : Value) (P : List Nat) : Prop := ∃ AP cP, v = .slice AP P.length cP ∧ wr.ownsRow M 3 1 (.slice AP P.length cP) P.length (ints (nats P))

section
variable {B n M : Nat} {w wr : World} {A : Option Addr} {L : List T3} {O : List Int} {v : Value} {P : List Nat}
theorem ShMem.alloc (h : ShMem B w A L n O wr) (hB : B ≤ w.heap.size) (o : Obj) : ShMem B w A L n O (wr.alloc o) := by
  have hs := h.size
  exact ⟨h.below.alloc (by omega) o, h.arg.ext ((Below.refl _ _).alloc (Nat.le_refl _) o), h.out.alloc o, by simp; omega⟩
theorem ShMem.store (h : ShMem B w A L n O wr) (hB : B ≤ w.heap.size) (i : Nat) (u : Int) : ShMem B w A L n (O.set i u) (wr.setCell ⟨w.heap.size, i, none⟩ (.int .i64 u)) := by
  have h1 := own_store h.out i (.int .i64 u)
  rw [ints_set] at h1
  exact ⟨h.below.setCell (p := ⟨w.heap.size, i, none⟩) (Nat.le_refl _) _, h.arg.below ((Below.refl B wr).setCell (p := ⟨w.heap.size, i, none⟩) hB _), h1, by simpa using h.size⟩
theorem ShMem.grown {w' : World} {row : Option Nat} (h : ShMem B w A L n O wr) (hB : B ≤ w.heap.size) (hg : wr.grownBy w' row) (hr : ∀ k, row = some k → w.heap.size + 1 ≤ k) : ShMem B w A L n O w' := by
  have hs := h.size
  have hgs := hg.size
  exact ⟨h.below.grown hg (by omega) (fun k hk => by have := hr k hk; omega), h.arg.below ((Below.refl B wr).grown hg (by omega) (fun k hk => by have := hr k hk; omega)), own_kept h.out hg (base' := w.heap.size + 1) (fun k hk => by simp [Value.ownBlock] at hk; omega) hr, by omega⟩
theorem ShMem.below_ {w' : World} (h : ShMem B w A L n O wr) (hb : Below wr.heap.size wr w') : ShMem B w A L n O w' := by
  have hs := h.size
  have hbs := hb.size
  exact ⟨h.below.trans (hb.mono (by omega)), h.arg.ext hb, own_below' h.out hb, by omega⟩
theorem ShMem.cell (h : ShMem B w A L n O wr) {i : Nat} (hi : i < O.length) (hn : O.length = n) : wr.cell? ⟨w.heap.size, i, none⟩ = some (.int .i64 (O.getD i 0)) ∧ wr.frozen? ⟨w.heap.size, i, none⟩ = false := by
  refine ⟨?_, h.out.frozenAt i⟩
  rw [h.out.cellAt i (by omega), ints_at O i hi]
  simp [List.getD, hi]
theorem PRow.of_own {m : Nat} {xs : List Value} (h : wr.ownsRow M 3 1 v m xs) (hm : m = P.length) (hx : xs = ints (nats P)) : PRow M wr v P := by
  obtain ⟨A, c, rfl⟩ := own_shape h
  subst hm
  subst hx
  exact ⟨A, c, rfl, h⟩
theorem parts_cell {g c : Nat} (h : wr.ownsRow M 3 1 (.slice (some ⟨g, 0, none⟩) P.length c) P.length (ints (nats P))) {k : Nat} (hk : k < P.length) : wr.cell? ⟨g, k, none⟩ = some (.int .i64 (P[k] : Int)) := by
  rw [h.cellAt k (by omega), ints_at _ k (by rw [nats_len]; exact hk), nats_at P k hk]
theorem arg_cells {j : Nat} (h : At B wr A (t3s L)) (hj : j < L.length) : ∃ g o, A = some ⟨g, o, none⟩ ∧ g < B ∧ wr.cell? ⟨g, o + j * 3, none⟩ = some (.int .i64 (tk L j).p) ∧ wr.cell? ⟨g, o + j * 3 + 1, none⟩ = some (.int .i64 (tk L j).q) ∧ wr.cell? ⟨g, o + j * 3 + 2, none⟩ = some (.int .i64 (tk L j).r) := by
  rw [tk_at hj]
  exact h.t3 hj
theorem PRow.nil (M : Nat) (wr : World) : PRow M wr (.slice none 0 0) [] := ⟨none, 0, rfl, World.ownsRow_nil _ _ _ _⟩
theorem PRow.alloc (h : PRow M wr v P) (o : Obj) : PRow M (wr.alloc o) v P := by
  obtain ⟨AP, cP, rfl, h1⟩ := h
  exact ⟨AP, cP, rfl, h1.alloc o⟩
theorem PRow.store (h : PRow M wr v P) {b : Nat} (hb : b < M) (i : Nat) (u : Value) : PRow M (wr.setCell ⟨b, i, none⟩ u) v P := by
  obtain ⟨AP, cP, rfl, h1⟩ := h
  exact ⟨AP, cP, rfl, own_off h1 (fun e => by have := own_ge h1 b e; omega)⟩
theorem PRow.kept {w' : World} {row : Option Nat} {M' : Nat} (h : PRow M wr v P) (hg : wr.grownBy w' row) (hv : ∀ k, v.ownBlock = some k → k < M') (hr : ∀ k, row = some k → M' ≤ k) : PRow M w' v P := by
  obtain ⟨AP, cP, rfl, h1⟩ := h
  exact ⟨AP, cP, rfl, own_kept h1 hg hv hr⟩
theorem PRow.lt (h : PRow M wr v P) : ∀ k, v.ownBlock = some k → k < wr.heap.size := by
  obtain ⟨AP, cP, rfl, h1⟩ := h
  exact fun k hk => (h1.lt k hk).2
theorem PRow.ge (h : PRow M wr v P) : ∀ k, v.ownBlock = some k → M ≤ k := by
  obtain ⟨AP, cP, rfl, h1⟩ := h
  exact fun k hk => (h1.lt k hk).1
theorem PRow.mono {M' : Nat} (h : PRow M wr v P) (hM : M' ≤ M) : PRow M' wr v P := by
  obtain ⟨AP, cP, rfl, h1⟩ := h
  exact ⟨AP, cP, rfl, own_mono h1 hM⟩
end
theorem start_take (L : List T3) (k : Nat) : ((List.range (k + 1)).filter fun i => decide (0 < (tk L i).r)) = ((List.range k).filter fun i => decide (0 < (tk L i).r)) ++ if 0 < (tk L k).r then [k] else [] := by
  rw [List.range_succ, List.filter_append]
  congr 1
  by_cases h : 0 < (tk L k).r <;> simp [h]
theorem init_all (L : List T3) : ((List.range L.length).map fun i => (tk L i).p) = L.map (·.p) := by
  apply List.ext_getElem
  · simp
  · intro i h1 h2
    simp at h1
    simp [tk_at h1]
theorem mul_bd {a b c d : Int} (ha : 0 ≤ a ∧ a ≤ c) (hb : 0 ≤ b ∧ b ≤ d) : 0 ≤ a * b ∧ a * b ≤ c * d := by
  refine ⟨Int.mul_nonneg ha.1 hb.1, ?_⟩
  exact Int.le_trans (Int.mul_le_mul_of_nonneg_right ha.2 hb.1) (Int.mul_le_mul_of_nonneg_left hb.2 (by omega))
theorem mul_bd2 {a b c d : Int} (ha : 0 ≤ a ∧ a ≤ c) (hb : -d ≤ b ∧ b ≤ d) : -(c * d) ≤ a * b ∧ a * b ≤ c * d := by
  have hd : 0 ≤ d := by omega
  have h1 : a * b ≤ a * d := Int.mul_le_mul_of_nonneg_left hb.2 ha.1
  have h2 : a * (-d) ≤ a * b := Int.mul_le_mul_of_nonneg_left hb.1 ha.1
  have h3 : a * d ≤ c * d := Int.mul_le_mul_of_nonneg_right ha.2 hd
  rw [Int.mul_neg] at h2
  omega
theorem rounds_step {L : List T3} {left : Int} {P : List Nat} {O res : List Int} (h : ∃ f, P.length < f ∧ roundsP L f left P O = res) (hP : ¬ P = []) (hne : ¬ (restP L left (gP L P) P).length = P.length) :
    ∃ f, (restP L left (gP L P) P).length < f ∧ roundsP L f (left - usedP L left (gP L P) P) (restP L left (gP L P) P) (P.foldl (fillO L left (gP L P)) O) = res := by
  obtain ⟨f, hf, h⟩ := h
  have hr := rest_le L left (gP L P) P
  match f, hf with
  | f + 1, hf =>
    refine ⟨f, by omega, ?_⟩
    rw [← h]
    simp only [roundsP, hP, hne, if_false]
theorem rounds_done {L : List T3} {left : Int} {P : List Nat} {O res : List Int} (h : ∃ f, P.length < f ∧ roundsP L f left P O = res) (hP : ¬ P = []) (he : (restP L left (gP L P) P).length = P.length) : doneP L left P O = res := by
  obtain ⟨f, hf, h⟩ := h
  match f, hf with
  | f + 1, hf =>
    rw [← h]
    simp only [roundsP, hP, he, if_true, if_false]
theorem rounds_none {L : List T3} {left : Int} {O res : List Int} (h : ∃ f, ([] : List Nat).length < f ∧ roundsP L f left [] O = res) : O = res := by
  obtain ⟨f, hf, h⟩ := h
  match f, hf with
  | f + 1, hf =>
    rw [← h]
    simp only [roundsP, if_true]
theorem used_take (L : List T3) (left g : Int) (P : List Nat) (k : Nat) (h : k < P.length) : usedP L left g (P.take (k + 1)) = usedP L left g (P.take k) + if fullP L left g P[k] then (tk L P[k]).q - (tk L P[k]).p else 0 := sumN_take _ P k h
theorem spent_take (L : List T3) (left g : Int) (P : List Nat) (k : Nat) (h : k < P.length) : spentP L left g (P.take (k + 1)) = spentP L left g (P.take k) + left * (tk L P[k]).r / g := sumN_take _ P k h
theorem g_take (L : List T3) (P : List Nat) (k : Nat) (h : k < P.length) : gP L (P.take (k + 1)) = gP L (P.take k) + (tk L P[k]).r := sumN_take _ P k h
theorem used_rough {L : List T3} (hm : ∀ t ∈ L, mayT t = true) (left g : Int) (P : List Nat) : 0 ≤ usedP L left g P ∧ usedP L left g P ≤ P.length * 16384 := by
  have := sumN_bd (f := fun i => if fullP L left g i then (tk L i).q - (tk L i).p else 0) (c := 0) (d := 16384) (P := P) (fun i _ => by
    have := tk_bd hm i
    split
    · rename_i hf
      simp [fullP] at hf
      omega
    · omega)
  unfold usedP
  omega
end Go.Proofs.Ytjippgflempdmaa
