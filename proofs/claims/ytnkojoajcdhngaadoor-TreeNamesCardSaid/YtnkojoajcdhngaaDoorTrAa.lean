/- One append, one make: of numbers, Bools, structs of three numbers (at this seat's types). -/
import Derived.Test.YtnkojoajcdhngaaDoorWrC
import Derived.Test.YtnkojoajcdhngaaDoorBaseMake
import Derived.Deep.LoopGhost
import Derived.BigQuiet
import Derived.RangeFuncRecord
namespace Go.Proofs.YtnkojoajcdhngaaDoor
set_option linter.unusedVariables false
set_option linter.unusedSimpArgs false
set_option maxRecDepth 100000
open Go.RowKit

theorem info_int : (Tryd.prog.info? 3).map (fun i => (i.zero, i.size, i.bytes)) = some (some (.int .i64 0), 1, 8) := by kernel_rfl
theorem info_bool : (Tryd.prog.info? 4).map (fun i => (i.zero, i.size, i.bytes)) = some (some (.bool false), 1, 1) := by kernel_rfl
section
variable {ops : Array Oper} {rest : List Oper} {o : Oper} {a : Act} {Q : Exit → Act → World → Prop} {w : World}
theorem append_int (hgd : o.guard = none) (s x : Operand) (ho : o.op = .call { callee := .builtin .append, args := #[s, x], argTypes := #[37, 37] }) (base : Nat) (v : Value) (l : List Int) (n : Int) (g : Nat)
    (hs : a.eval s = v) (hx : a.eval x = .slice (some ⟨g, 0, none⟩) 1 1) (hown : w.ownsRow base 3 1 v l.length (ints l)) (h0 : w.cell? ⟨g, 0, none⟩ = some (.int .i64 n)) (hn : l.length ≤ 1000000) (hbase : base ≤ w.heap.size)
    (h : ∀ v' w', w'.ownsRow base 3 1 v' (l ++ [n]).length (ints (l ++ [n])) → w.grownBy w' v.ownBlock → v' ≠ .slice none 0 0 → wpList Tryd.prog ops Q rest (a.put o.dst v') w') : wpList Tryd.prog ops Q (o :: rest) a w := by
  obtain ⟨i0, hi, hz0, hz1, hz2⟩ := info_parts info_int
  refine wpList_append_own w hgd s x 37 ho base 3 i0 _ 1 8 Tryd.underlying37 hi hz0 hz1 hz2 rfl (by decide) v l.length (ints l) hs hown ⟨g, 0, none⟩ 1 1 (ints [n]) hx rfl (fun j u hj => ?_) (ints_one _) (by unfold maxLen; omega) (by omega) hbase (fun v' w' h4 h5 h6 => ?_)
  · match j, hj with
    | 0, hj => simp [ints] at hj; subst hj; simpa [Addr.add] using h0
    | j + 1, hj => simp [ints] at hj
  · refine h v' w' (by rw [ints_append, List.length_append]; exact h4) h5 (fun e => ?_)
    have := (h6.1 e).2
    omega
/-- 'append(out, l...)', out nil or owned, l any slice (nil too). -/
theorem append_many {E S : TypeId} {size bytes : Nat} {i0 : TypeInfo} {z : Value} (hu : Tryd.prog.underlying S = some (.slice E)) (hi : Tryd.prog.info? E = some i0) (hz0 : i0.zero = some z) (hz1 : i0.size = size) (hz2 : i0.bytes = bytes) (hzs : z.cells.size = size) (hsz : 0 < size)
    (hgd : o.guard = none) (s x : Operand) (ho : o.op = .call { callee := .builtin .append, args := #[s, x], argTypes := #[S, S] }) (base : Nat) (v : Value) (n : Nat) (xs : List Value) (A : Option Addr) (m c B : Nat) (ys : List Value)
    (hs : a.eval s = v) (hx : a.eval x = .slice A m c) (hnil : A = none → m = 0 ∧ c = 0) (hown : w.ownsRow base E size v n xs) (hy : At B w A ys) (hyl : ys.length = m * size) (h1 : ∀ u ∈ ys, u.oneCell' = true) (h63 : n + m ≤ maxLen) (hbytes : (n + m) * bytes ≤ 140737488355328) (hbase : base ≤ w.heap.size)
    (h : ∀ v' w', w'.ownsRow base E size v' (n + m) (xs ++ ys) → w.grownBy w' v.ownBlock → wpList Tryd.prog ops Q rest (a.put o.dst v') w') : wpList Tryd.prog ops Q (o :: rest) a w := by
  cases A with
  | some ad =>
    refine wpList_append_own w hgd s x S ho base E i0 z size bytes hu hi hz0 hz1 hz2 hzs hsz v n xs hs hown ad m c ys hx hyl (fun j u hj => ?_) h1 h63 hbytes hbase (fun v' w' h4 h5 _ => h v' w' h4 h5)
    have hpos : 0 < ys.length := by
      have := (List.getElem?_eq_some_iff.1 hj).1
      omega
    obtain ⟨g, o', hA, hg, hc⟩ := hy hpos
    have := hc j u hj
    injection hA with hA
    subst hA
    by_cases h0 : j = 0
    · subst h0
      simpa [Addr.add] using this
    · simpa [Addr.add, h0] using this
  | none =>
    obtain ⟨rfl, rfl⟩ := hnil rfl
    have hys : ys = [] := List.eq_nil_of_length_eq_zero (by simpa using hyl)
    subst hys
    refine wpList_plain hgd fun K hK' => ?_
    obtain ⟨A', c', rfl⟩ := own_shape hown
    have hrun := run_append_owned_none (P := Tryd.prog) w base S o.type E i0 size hu hi _ n xs hown
    unfold Oper.wp
    simp [execOp, ho, resolve, invoke, builtin, hs, hx, hrun, Result.andThen]
    exact hK' _ _ (h _ w (by simpa using hown) (World.grownBy.refl _ _))
theorem make_ints (hgd : o.guard = none) (l c : Operand) (ho : o.op = Op.makeSlice 37 l c) (base n : Nat) (hl : a.eval l = .int .i64 (n : Int)) (hc : a.eval c = .int .i64 (n : Int)) (hn : n ≤ 1000000) (hbase : base ≤ w.heap.size)
    (h : ∀ w', w'.ownsRow base 3 1 (.slice (some ⟨w.heap.size, 0, none⟩) n n) n (ints (List.replicate n 0)) → w.grownBy w' none → wpList Tryd.prog ops Q rest (a.put o.dst (.slice (some ⟨w.heap.size, 0, none⟩) n n)) w') : wpList Tryd.prog ops Q (o :: rest) a w := by
  obtain ⟨i0, hi, hz0, hz1, hz2⟩ := info_parts info_int
  refine wpList_make_full w hgd l c 37 ho base 3 i0 _ 1 Tryd.underlying37 hi hz0 hz1 .i64 .i64 _ _ n hl hc rfl rfl (by rw [hz2]; omega) (by unfold maxLen; omega) hbase (fun w' h4 h5 => ?_)
  refine h w' ?_ h5
  have e : (madeCells (Value.int .i64 0).cells (n * 1)).toList = ints (List.replicate n 0) := by
    rw [Nat.mul_one]
    simp [ints, Value.cells, toList_madeCells_one]
  rw [← e]
  exact h4
end

/-! Plain words on lists by index. -/
theorem set_range {α : Type} (n k : Nat) (f : Nat → α) (v : α) : ((List.range n).map f).set k v = (List.range n).map (fun i => if i = k then v else f i) := by
  apply List.ext_getElem
  · simp
  · intro i h1 h2
    simp only [List.getElem_set, List.getElem_map, List.getElem_range]
    by_cases e : k = i
    · subst e
      simp
    · have e' : ¬ i = k := fun h => e h.symm
      simp [e, e']
theorem map_range_congr {α : Type} {n : Nat} {f g : Nat → α} (h : ∀ i, i < n → f i = g i) : (List.range n).map f = (List.range n).map g := List.map_congr_left fun i hi => h i (List.mem_range.1 hi)
theorem replicate_range {α : Type} (n : Nat) (v : α) : List.replicate n v = (List.range n).map fun _ => v := by
  apply List.ext_getElem
  · simp
  · intro i h1 h2
    simp
theorem range_snoc {α : Type} (n : Nat) (f : Nat → α) : (List.range (n + 1)).map f = (List.range n).map f ++ [f n] := by
  rw [List.range_succ, List.map_append]
  rfl
end Go.Proofs.YtnkojoajcdhngaaDoor

/- Layer 8: nodes in memory; texts, numbers, rooms. -/
namespace Go.Proofs.YtnkojoajcdhngaaDoor
set_option linter.unusedVariables false
set_option linter.unusedSimpArgs false
set_option maxRecDepth 100000
open Go.RowKit Go.Shelf Go.Lib
set_option maxRecDepth 100000
set_option maxHeartbeats 8000000

structure Nd where
  kind : Int
  name : ByteArray
  cls : ByteArray
  txt : ByteArray
  mw : Int
  mh : Int
  xw : Int
  xh : Int
  grow : Int
  order : Int
  column : Bool
  columns : Int
  span : Int
  gap : Int
  ox : Int
  oy : Int
  hidden : Bool
  wraps : List Wr
  kids : List Int
/-- A node's cells; its wrappers and its kids: two slices. -/
def ndC (n : Nd) (vw vk : Value) : List Value := [.int .u8 n.kind, .string n.name, .string n.cls, .string n.txt, .int .i64 n.mw, .int .i64 n.mh, .int .i64 n.xw, .int .i64 n.xh, .int .i64 n.grow, .int .i64 n.order, .bool n.column, .int .i64 n.columns, .int .i64 n.span, .int .i64 n.gap, .int .i64 n.ox, .int .i64 n.oy, .bool n.hidden, vw, vk]
def Nd.ok (n : Nd) : Prop := (0 ≤ n.kind ∧ n.kind ≤ 255) ∧ n.name.size ≤ 9223372036854775807 ∧ n.cls.size ≤ 9223372036854775807 ∧ n.txt.size ≤ 9223372036854775807 ∧ (∀ t ∈ n.wraps, t.ok) ∧ n.wraps.length ≤ 9000000000000000 ∧ n.kids.length ≤ 9000000000000
def okT (s : ByteArray) (m : Int) : Bool := decide ((s.size : Int) ≤ m) && Lib.validD s.data.toList
def frB (m : Int) (n : Int) : Bool := decide (0 ≤ n) && decide (n ≤ m)
def mostB (l m : Int) : Bool := decide (m = 0) || decide (l ≤ m)
def roomE (k : Int) : Nat := if k = 4 ∨ k = 5 ∨ k = 10 then 1024 else if k = 6 then 1 else 0
/-- May a node be, but for how many kids it has? -/
def nodeB (n : Nd) : Bool :=
  (decide (1 ≤ n.kind) && decide (n.kind ≤ 10)) && (okT n.name 64 && (okT n.cls 64 && okT n.txt 65536)) &&
  ([n.mw, n.mh, n.xw, n.xh, n.grow, n.gap].all (frB 16384) && (mostB n.mw n.xw && mostB n.mh n.xh)) &&
  ((decide (-1 ≤ n.order) && decide (n.order ≤ 1048576)) && ([n.ox, n.oy].all (frB 1048576) && ([n.columns, n.span].all (frB 64) && decide (n.wraps.length ≤ 16)))) && allW n.wraps
def mayB (n : Nd) : Bool := nodeB n && decide (n.kids.length ≤ roomE n.kind)

theorem room_any (k : Int) (w : World) : Calls Tryd.prog 108 #[.int .u8 k] w fun e w' => e = .returned (.int .i64 (roomE k : Int)) ∧ Below w.heap.size w w' := by
  unfold roomE
  by_cases h4 : k = 4
  · subst h4
    go_enter Tryd.func108, Tryd.ntmps108
    go_wp2
    go_ret
    exact ⟨rfl, Below.refl _ _⟩
  by_cases h5 : k = 5
  · subst h5
    go_enter Tryd.func108, Tryd.ntmps108
    go_wp2
    go_ret
    exact ⟨rfl, Below.refl _ _⟩
  by_cases h10 : k = 10
  · subst h10
    go_enter Tryd.func108, Tryd.ntmps108
    go_wp2
    go_ret
    exact ⟨rfl, Below.refl _ _⟩
  by_cases h6 : k = 6
  · subst h6
    go_enter Tryd.func108, Tryd.ntmps108
    go_wp2
    go_ret
    exact ⟨rfl, Below.refl _ _⟩
  have e4 : (k == 4) = false := beq_eq_false_iff_ne.2 h4
  have e5 : (k == 5) = false := beq_eq_false_iff_ne.2 h5
  have e10 : (k == 10) = false := beq_eq_false_iff_ne.2 h10
  have e6 : (k == 6) = false := beq_eq_false_iff_ne.2 h6
  rw [if_neg (by omega), if_neg h6]
  go_enter Tryd.func108, Tryd.ntmps108
  go_wp2
  go_ret
  exact ⟨rfl, Below.refl _ _⟩
theorem holds_any (k : Int) (w : World) : Calls Tryd.prog 85 #[.int .u8 k] w fun e w' => e = .returned (.int .i64 (roomE k : Int)) ∧ Below w.heap.size w w' := by
  unfold roomE
  by_cases h4 : k = 4
  · subst h4
    go_enter Tryd.func85, Tryd.ntmps85
    go_wp2
    go_ret
    exact ⟨rfl, Below.refl _ _⟩
  by_cases h5 : k = 5
  · subst h5
    go_enter Tryd.func85, Tryd.ntmps85
    go_wp2
    go_ret
    exact ⟨rfl, Below.refl _ _⟩
  by_cases h10 : k = 10
  · subst h10
    go_enter Tryd.func85, Tryd.ntmps85
    go_wp2
    go_ret
    exact ⟨rfl, Below.refl _ _⟩
  by_cases h6 : k = 6
  · subst h6
    go_enter Tryd.func85, Tryd.ntmps85
    go_wp2
    go_ret
    exact ⟨rfl, Below.refl _ _⟩
  have e4 : (k == 4) = false := beq_eq_false_iff_ne.2 h4
  have e5 : (k == 5) = false := beq_eq_false_iff_ne.2 h5
  have e10 : (k == 10) = false := beq_eq_false_iff_ne.2 h10
  have e6 : (k == 6) = false := beq_eq_false_iff_ne.2 h6
  rw [if_neg (by omega), if_neg h6]
  go_enter Tryd.func85, Tryd.ntmps85
  go_wp2
  go_ret
  exact ⟨rfl, Below.refl _ _⟩
theorem most_any (l m : Int) (w : World) : Calls Tryd.prog 104 #[.int .i64 l, .int .i64 m] w fun e w' => e = .returned (.bool (mostB l m)) ∧ Below w.heap.size w w' := by
  unfold mostB
  by_cases h : m = 0
  · subst h
    go_enter Tryd.func104, Tryd.ntmps104
    go_wp2
    go_ret
    exact ⟨rfl, Below.refl _ _⟩
  · rw [decide_eq_false h, Bool.false_or]
    have e : (m == 0) = false := beq_eq_false_iff_ne.2 h
    by_cases h2 : l ≤ m
    · rw [decide_eq_true h2]
      go_enter Tryd.func104, Tryd.ntmps104
      go_wp2
      go_ret
      exact ⟨rfl, Below.refl _ _⟩
    · rw [decide_eq_false h2]
      go_enter Tryd.func104, Tryd.ntmps104
      go_wp2
      go_ret
      exact ⟨rfl, Below.refl _ _⟩
theorem from_any (n m : Int) (w : World) : Calls Tryd.prog 100 #[.int .i64 n, .int .i64 m] w fun e w' => e = .returned (.bool (frB m n)) ∧ Below w.heap.size w w' := by
  unfold frB
  by_cases h : 0 ≤ n
  · rw [decide_eq_true h, Bool.true_and]
    by_cases h2 : n ≤ m
    · rw [decide_eq_true h2]
      go_enter Tryd.func100, Tryd.ntmps100
      go_wp2
      go_ret
      exact ⟨rfl, Below.refl _ _⟩
    · rw [decide_eq_false h2]
      go_enter Tryd.func100, Tryd.ntmps100
      go_wp2
      go_ret
      exact ⟨rfl, Below.refl _ _⟩
  · rw [decide_eq_false h, Bool.false_and]
    go_enter Tryd.func100, Tryd.ntmps100
    go_wp2
    go_ret
    exact ⟨rfl, Below.refl _ _⟩
theorem ttext_any (s : ByteArray) (m : Int) (w : World) (hT : Tabs w) (hs : s.size ≤ 9223372036854775807) :
    Calls Tryd.prog 102 #[.string s, .int .i64 m] w fun e w' => e = .returned (.bool (okT s m)) ∧ Below w.heap.size w w' := by
  have cV : Calls Tryd.prog 113 #[.string s] w _ := Any.utf8_ValidString Tryd.laysValid s w hs hT
  unfold okT
  generalize Lib.validD s.data.toList = V at cV ⊢
  by_cases h0 : (s.size : Int) ≤ m
  · rw [decide_eq_true h0, Bool.true_and]
    go_enter Tryd.func102, Tryd.ntmps102
    go_wp2_with fail
    with_reducible refine cV.mono ?_
    rintro e w' ⟨rfl, hb⟩
    clear cV
    go_wp2
    go_ret
    exact ⟨rfl, hb⟩
  · rw [decide_eq_false h0, Bool.false_and]
    clear cV
    go_enter Tryd.func102, Tryd.ntmps102
    go_wp2
    go_ret
    exact ⟨rfl, Below.refl _ _⟩
theorem rttext_any (s : ByteArray) (m : Int) (w : World) (hT : Tabs w) (hs : s.size ≤ 9223372036854775807) :
    Calls Tryd.prog 99 #[.string s, .int .i64 m] w fun e w' => e = .returned (.bool (okT s m)) ∧ Below w.heap.size w w' := by
  have cV : Calls Tryd.prog 113 #[.string s] w _ := Any.utf8_ValidString Tryd.laysValid s w hs hT
  unfold okT
  generalize Lib.validD s.data.toList = V at cV ⊢
  by_cases h0 : (s.size : Int) ≤ m
  · rw [decide_eq_true h0, Bool.true_and]
    go_enter Tryd.func99, Tryd.ntmps99
    go_wp2_with fail
    with_reducible refine cV.mono ?_
    rintro e w' ⟨rfl, hb⟩
    clear cV
    go_wp2
    go_ret
    exact ⟨rfl, hb⟩
  · rw [decide_eq_false h0, Bool.false_and]
    clear cV
    go_enter Tryd.func99, Tryd.ntmps99
    go_wp2
    go_ret
    exact ⟨rfl, Below.refl _ _⟩
theorem all_drop {α : Type} (p : α → Bool) (l : List α) {k : Nat} (h : k < l.length) : (l.drop k).all p = (p l[k] && (l.drop (k + 1)).all p) := by
  rw [List.drop_eq_getElem_cons h, List.all_cons]
theorem within_any (m : Int) (L : List Int) (A : Option Addr) (c B : Nat) (w : World) (hA : At B w A (ints L)) (hB : B ≤ w.heap.size) (hl : L.length ≤ 1000000) :
    Calls Tryd.prog 103 #[.int .i64 m, .slice A L.length c] w fun e w' => e = .returned (.bool (L.all (frB m))) ∧ Below w.heap.size w w' := by
  obtain ⟨R, hR⟩ : ∃ R, L.all (frB m) = R := ⟨_, rfl⟩
  rw [hR]
  have HR := hid hR
  have HA := hid hA
  clear hR hA
  go_enter Tryd.func103, Tryd.ntmps103
  go_wp2
  go_loopg [9] L.length (fun gh v9 wr => ∃ i : Nat, v9 = .int .i64 (i : Int) ∧ i ≤ L.length ∧ L.length - i ≤ gh ∧ Hid ((L.drop i).all (frB m) = R) ∧ wr = w)
  case atStart => exact ⟨0, rfl, by omega, by omega, HR, rfl⟩
  case round =>
    obtain ⟨i, rfl, hi, hgh, H1, rfl⟩ := hrel
    by_cases hlt : i < L.length
    · have hli : (i : Int) < (L.length : Int) := by omega
      have h1 := H1.out
      rw [all_drop _ _ hlt] at h1
      obtain ⟨g, o, rfl, hg, o0⟩ := HA.out.int hlt
      have y0 : g < wr.heap.size := by omega
      obtain ⟨z, hz⟩ : ∃ z, L[i] = z := ⟨_, rfl⟩
      rw [hz] at o0 h1
      by_cases hf : 0 ≤ z ∧ z ≤ m
      · have e1 : frB m z = true := by unfold frB; rw [decide_eq_true hf.1, decide_eq_true hf.2]; rfl
        rw [e1, Bool.true_and] at h1
        have H2 := hid h1
        obtain ⟨f1, f2⟩ := hf
        have f3 : ¬ z < 0 := by omega
        have f4 : ¬ m < z := by omega
        clear h1 hz e1
        go_wp2
        go_roundg (L.length - (i + 1))
        case measure => omega
        case rel => exact ⟨i + 1, by go_num, by omega, by omega, H2, rfl⟩
      · have e1 : frB m z = false := by
          unfold frB
          by_cases q : 0 ≤ z
          · rw [decide_eq_true q, decide_eq_false (fun h => hf ⟨q, h⟩)]; rfl
          · rw [decide_eq_false q]; rfl
        rw [e1, Bool.false_and] at h1
        subst h1
        by_cases q : z < 0
        · clear hz e1
          go_wp2
          go_ret
          exact ⟨rfl, Below.refl _ _⟩
        · have q2 : m < z := by omega
          clear hz e1
          go_wp2
          go_ret
          exact ⟨rfl, Below.refl _ _⟩
    · have h1 := H1.out
      rw [List.drop_eq_nil_of_le (by omega)] at h1
      have hr : R = true := h1.symm
      subst hr
      have q : ¬ (i : Int) < (L.length : Int) := by omega
      clear h1
      go_wp2
      go_ret
      exact ⟨rfl, Below.refl _ _⟩
end Go.Proofs.YtnkojoajcdhngaaDoor

/- Layer 8: a node's box; wrappers checked. -/
namespace Go.Proofs.YtnkojoajcdhngaaDoor
set_option linter.unusedVariables false
set_option linter.unusedSimpArgs false
set_option maxRecDepth 100000
open Go.RowKit Go.Shelf Go.Lib
set_option maxRecDepth 100000
set_option maxHeartbeats 8000000

def NBox (b : Nat) (n : Nd) (vw vk : Value) (w : World) : Prop := w.heap[b]? = some (.cells (ndC n vw vk).toArray 39 (0, 0))
theorem NBox.on {b : Nat} {n : Nd} {vw vk : Value} {w w' : World} (h : NBox b n vw vk w) (hb : Below w.heap.size w w') : NBox b n vw vk w' := (hb.block b (lt_of_block h)).trans h
theorem NBox.cells {b : Nat} {n : Nd} {vw vk : Value} {w : World} (h : NBox b n vw vk w) : w.cell? ⟨b, 0, none⟩ = some (.int .u8 n.kind) ∧ w.cell? ⟨b, 1, none⟩ = some (.string n.name) ∧ w.cell? ⟨b, 2, none⟩ = some (.string n.cls) ∧ w.cell? ⟨b, 3, none⟩ = some (.string n.txt) ∧
    w.cell? ⟨b, 4, none⟩ = some (.int .i64 n.mw) ∧ w.cell? ⟨b, 5, none⟩ = some (.int .i64 n.mh) ∧ w.cell? ⟨b, 6, none⟩ = some (.int .i64 n.xw) ∧ w.cell? ⟨b, 7, none⟩ = some (.int .i64 n.xh) ∧ w.cell? ⟨b, 8, none⟩ = some (.int .i64 n.grow) ∧ w.cell? ⟨b, 9, none⟩ = some (.int .i64 n.order) ∧
    w.cell? ⟨b, 10, none⟩ = some (.bool n.column) ∧ w.cell? ⟨b, 11, none⟩ = some (.int .i64 n.columns) ∧ w.cell? ⟨b, 12, none⟩ = some (.int .i64 n.span) ∧ w.cell? ⟨b, 13, none⟩ = some (.int .i64 n.gap) ∧ w.cell? ⟨b, 14, none⟩ = some (.int .i64 n.ox) ∧ w.cell? ⟨b, 15, none⟩ = some (.int .i64 n.oy) ∧
    w.cell? ⟨b, 16, none⟩ = some (.bool n.hidden) ∧ w.cell? ⟨b, 17, none⟩ = some vw ∧ w.cell? ⟨b, 18, none⟩ = some vk := by
  refine ⟨?_, ?_, ?_, ?_, ?_, ?_, ?_, ?_, ?_, ?_, ?_, ?_, ?_, ?_, ?_, ?_, ?_, ?_, ?_⟩ <;> (rw [blk_cell h]; rfl)
theorem bad_any (t : Wr) (w : World) (hT : Tabs w) (ht : t.ok) : Calls Tryd.prog 106 #[.agg #[.int .u8 t.k, .int .u16 t.m, .int .i64 t.n, .string t.s]] w fun e w' => e = .returned (.bool (!okW t)) ∧ Below w.heap.size w w' := by
  have hB := (Below.refl w.heap.size w).alloc (Nat.le_refl _) (.cells #[.int .u8 t.k, .int .u16 t.m, .int .i64 t.n, .string t.s] 42)
  have C := Check_any t.k t.m t.n t.s (w.alloc (.cells #[.int .u8 t.k, .int .u16 t.m, .int .i64 t.n, .string t.s] 42)) (tabs_on hT hB) ht.2.2 ht.2.1
  obtain ⟨v, hv⟩ : ∃ v, okW t = v := ⟨_, rfl⟩
  rw [chk_of hv] at C
  rw [hv]
  have HB := hid hB
  clear hB hv hT ht
  cases v
  all_goals
    go_enter Tryd.func106, Tryd.ntmps106
    go_wp2_with fail
    with_reducible refine C.mono ?_
    rintro e w1 ⟨rfl, hb1⟩
    clear C
    go_wp2
    go_ret
    exact ⟨rfl, HB.out.trans (hb1.mono HB.out.size)⟩
theorem allW_drop (L : List Wr) {k : Nat} (h : k < L.length) : allW (L.drop k) = (okW L[k] && allW (L.drop (k + 1))) := by
  unfold allW
  exact all_drop _ _ h
theorem windex_any (L : List Wr) (hok : ∀ t ∈ L, t.ok) (A : Option Addr) (c B : Nat) (w : World) (hT : Tabs w) (hA : At B w A (wrs L)) (hB : B ≤ w.heap.size) (hl : L.length ≤ 9000000000000000) :
    Calls Tryd.prog 115 #[.slice A L.length c, .func (.func 106) #[] #[]] w fun e w' => ∃ r : Int, e = .returned (.int .i64 r) ∧ decide (0 ≤ r) = !allW L ∧ Below w.heap.size w w' := by
  obtain ⟨R, hR⟩ : ∃ R, allW L = R := ⟨_, rfl⟩
  rw [hR]
  have HR := hid hR
  have HA := hid hA
  have HT := hid hT
  have HO := hid hok
  clear hR hA hT hok
  go_enter Tryd.func115, Tryd.ntmps115
  go_wp2
  go_loopg [8] L.length (fun gh v8 wr => ∃ i : Nat, v8 = .int .i64 (i : Int) ∧ i ≤ L.length ∧ L.length - i ≤ gh ∧ Hid (allW (L.drop i) = R) ∧ Below w.heap.size w wr)
  case atStart => exact ⟨0, rfl, by omega, by omega, HR, Below.refl _ _⟩
  case round =>
    obtain ⟨i, rfl, hi, hgh, H1, hbr⟩ := hrel
    have hsz := hbr.size
    by_cases hlt : i < L.length
    · have hli : (i : Int) < (L.length : Int) := by omega
      have h1 := H1.out
      rw [allW_drop _ hlt] at h1
      obtain ⟨g, o, rfl, hg, o0, o1, o2, o3⟩ := (HA.out.below (hbr.mono hB)).wr hlt
      have y0 : g < wr.heap.size := by omega
      have C := bad_any L[i] wr (tabs_on HT.out hbr) (HO.out _ (List.getElem_mem hlt))
      obtain ⟨z, hz⟩ : ∃ z, L[i] = z := ⟨_, rfl⟩
      rw [hz] at o0 o1 o2 o3 h1 C
      obtain ⟨v, hv⟩ : ∃ v, okW z = v := ⟨_, rfl⟩
      rw [hv] at h1 C
      have H2 := hid h1
      have HBR := hid hbr
      clear h1 hz hv hbr hg
      cases v with
      | true =>
        go_wp2_with fail
        with_reducible refine C.mono ?_
        rintro e w1 ⟨rfl, hb1⟩
        clear C
        go_wp2
        go_roundg (L.length - (i + 1))
        case measure => omega
        case rel => exact ⟨i + 1, by go_num, by omega, by omega, hid (by have := H2.out; rwa [Bool.true_and] at this), HBR.out.trans (hb1.mono HBR.out.size)⟩
      | false =>
        go_wp2_with fail
        with_reducible refine C.mono ?_
        rintro e w1 ⟨rfl, hb1⟩
        clear C
        go_wp2
        refine bodyPost_ret (v := .int .i64 (i : Int)) (by simp [results, Tryd.results115, go_sem, *]) rfl ⟨(i : Int), rfl, by
          have := H2.out
          rw [Bool.false_and] at this
          rw [← this]
          simp, HBR.out.trans (hb1.mono HBR.out.size)⟩
    · have h1 := H1.out
      rw [List.drop_eq_nil_of_le (by omega)] at h1
      have hr : R = true := h1.symm
      subst hr
      have q : ¬ (i : Int) < (L.length : Int) := by omega
      clear h1
      go_wp2
      refine bodyPost_ret (v := .int .i64 (-1)) (by simp [results, Tryd.results115, go_sem, *]) rfl ⟨-1, rfl, by decide, hbr⟩
theorem wcontains_any (L : List Wr) (hok : ∀ t ∈ L, t.ok) (A : Option Addr) (c B : Nat) (w : World) (hT : Tabs w) (hA : At B w A (wrs L)) (hB : B ≤ w.heap.size) (hl : L.length ≤ 9000000000000000) :
    Calls Tryd.prog 105 #[.slice A L.length c, .func (.func 106) #[] #[]] w fun e w' => e = .returned (.bool (!allW L)) ∧ Below w.heap.size w w' := by
  have C := windex_any L hok A c B w hT hA hB hl
  clear hok hT hA
  generalize allW L = R at *
  go_enter Tryd.func105, Tryd.ntmps105
  go_wp2_with fail
  with_reducible refine C.mono ?_
  rintro e w1 ⟨r, rfl, hr, hb1⟩
  clear C
  go_wp2
  refine bodyPost_ret (v := .bool (decide (0 ≤ r))) (by simp [results, Tryd.results105, go_sem, *]) rfl ⟨by rw [hr], hb1⟩
end Go.Proofs.YtnkojoajcdhngaaDoor
