/- Layer 5: the walks of sort.swapRange_func and sort.rotate_func: what they do to a row of numbers. -/
import Derived.Test.YtoiondgcjbdonaaDoorBase
import Derived.Test.YtoiondgcjbdonaaDoorProg
import Derived.Test.YtoiondgcjbdonaaDoorStPlain
import Derived.Shelf.GgSortFunc.SW
import Derived.Deep.LoopGhost
import Derived.Lib.Hide
namespace Go.Proofs.YtoiondgcjbdonaaDoor
set_option linter.unusedVariables false
set_option linter.unusedSimpArgs false
set_option maxRecDepth 100000
open Go.RowKit Go.Shelf Go.Lib Go.Sort

theorem mixed : Tryd.prog.follows .mixedOrders = true := by kernel_rfl
/-- A number in a row; numbers count up to nn, so that whatever a row holds is a number below nn. -/
def encN (nn n : Nat) : Value := .int .i64 ((n % nn : Nat) : Int)

/-- What is asked of the comparison: in every world that the sort passes through it answers by the row; it may draw and lay new blocks, and changes none. -/
def LessLays (nn : Nat) (g : Nat) (lb : Array Value) (key : Nat → Nat) (blk off size : Nat) (w : World) : Prop :=
  ∀ (m : Nat) (os : Array Obj) (dk : Array Nat), dk.size = size → ∀ i j : Nat, i < size → j < size →
    Calls Tryd.prog g (#[.int .i64 i, .int .i64 j] ++ lb) (sortWorld (encN nn) w blk off m dk os) fun e w' => e = .returned (.bool (lk key dk[i]! dk[j]!)) ∧ SW (encN nn) (sortWorld (encN nn) w blk off m dk os) blk off dk w'
theorem sw_lays {nn : Nat} {g : Nat} {lb : Array Value} {key : Nat → Nat} {blk off size : Nat} {d : Array Nat} {W W' : World} (s : SW (encN nn) W blk off d W') (h : LessLays nn g lb key blk off size W) (hblk : blk < W.heap.size) (hs : d.size = size) :
    LessLays nn g lb key blk off size W' := by
  obtain ⟨n, os, rfl⟩ := s
  intro m os' dk' hs' i j hi hj
  rw [sortWorld_on (encN nn) W blk off n m d dk' os os' hblk (hs'.trans hs.symm)]
  exact h _ _ dk' hs' i j hi hj

/-- The row, and what compares and exchanges its numbers. -/
structure Fam (nn : Nat) (g : Nat) (lb : Array Value) (sf : Nat) (sb : Array Value) (key : Nat → Nat) (blk off : Nat) (d : Array Nat) (W : World) : Prop where
  eg : ∀ args w, (callFunc g args).run Tryd.prog w = .ok (.enter g args) w
  less : LessLays nn g lb key blk off d.size W
  swp : SwapSwaps Tryd.prog sf sb (encN nn) blk off d.size
  holds : Holds (encN nn) W blk off d
  lt : blk < W.heap.size
  sz : d.size < 4611686018427387904

variable {nn : Nat} {g : Nat} {lb : Array Value} {sf : Nat} {sb : Array Value} {key : Nat → Nat} {blk off : Nat} {d d' : Array Nat} {W W' W'' : World}
theorem Fam.sw (h : Fam nn g lb sf sb key blk off d W) : SW (encN nn) W blk off d W := SW.start h.holds
theorem Fam.on (h : Fam nn g lb sf sb key blk off d W) (s : SW (encN nn) W blk off d' W') (hs : d'.size = d.size) : Fam nn g lb sf sb key blk off d' W' where
  eg := h.eg
  less := by rw [hs]; exact sw_lays s h.less h.lt hs
  swp := by rw [hs]; exact h.swp
  holds := s.holds h.lt h.holds hs
  lt := s.lt h.lt
  sz := by rw [hs]; exact h.sz
theorem Fam.box (h : Fam nn g lb sf sb key blk off d W) (o : Obj) : Fam nn g lb sf sb key blk off d (W.alloc o) := h.on (h.sw.alloc o) rfl
theorem sw_trans {e : Array Nat} (hb : blk < W.heap.size) (h : SW (encN nn) W blk off d W') (h' : SW (encN nn) W' blk off e W'') (hs : e.size = d.size) : SW (encN nn) W blk off e W'' := by
  obtain ⟨n, os, rfl⟩ := h'
  exact h.on hb _ _ _ hs
theorem sw_cell (h : SW (encN nn) W blk off d W') {b : Nat} (hb : b < W.heap.size) (hne : b ≠ blk) (k : Nat) : W'.cell? ⟨b, k, none⟩ = W.cell? ⟨b, k, none⟩ := by
  obtain ⟨n, os, rfl⟩ := h
  unfold sortWorld
  rw [cell?_grow _ _ _ (by rw [size_putRow]; exact hb), cell?_putRow_other (encN nn) _ blk off _ _ (Or.inl hne)]
  rfl
theorem Fam.swap (h : Fam nn g lb sf sb key blk off d W) {i j : Nat} (hi : i < d.size) (hj : j < d.size) :
    (callFunc sf (#[.int .i64 i, .int .i64 j] ++ sb)).run Tryd.prog W = .ok (.value (.tuple #[])) ((W.setCell ⟨blk, off + i, none⟩ ((encN nn) d[j]!)).setCell ⟨blk, off + j, none⟩ ((encN nn) d[i]!)) := h.swp W d h.holds rfl i j hi hj
theorem Fam.ask (h : Fam nn g lb sf sb key blk off d W) {i j : Nat} (hi : i < d.size) (hj : j < d.size) :
    Calls Tryd.prog g (#[.int .i64 i, .int .i64 j] ++ lb) W fun e w' => e = .returned (.bool (lk key d[i]! d[j]!)) ∧ SW (encN nn) W blk off d w' :=
  by
  have q := h.less 0 #[] d rfl i j hi hj
  rw [sortWorld_start (encN nn) W blk off d h.holds] at q
  exact q

theorem sw_box {x : Array Nat} (hlt : blk < W.heap.size) (h : SW (encN nn) (W.alloc (.cells #[.func (.func g) #[] lb, .func (.func sf) #[] sb] 79)) blk off x W') :
    W'.cell? ⟨W.heap.size, 0, none⟩ = some (.func (.func g) #[] lb) ∧ W'.cell? ⟨W.heap.size, 1, none⟩ = some (.func (.func sf) #[] sb) := by
  constructor
  · rw [sw_cell h (by simp) (by omega)]; simp
  · rw [sw_cell h (by simp) (by omega)]; simp
/-- 'data' as the sort's functions are handed it. -/
def dataV (g : Nat) (lb : Array Value) (sf : Nat) (sb : Array Value) : Value := .agg #[.func (.func g) #[] lb, .func (.func sf) #[] sb]
def dataO (g : Nat) (lb : Array Value) (sf : Nat) (sb : Array Value) : Obj := .cells #[.func (.func g) #[] lb, .func (.func sf) #[] sb] 79

set_option maxHeartbeats 1000000 in
set_option maxRecDepth 100000 in
theorem swapRange_any (F : Fam nn g lb sf sb key blk off d W) (a b n : Nat) (h1 : a + n ≤ b) (h2 : b + n ≤ d.size) :
    Calls Tryd.prog 82 #[.agg #[.func (.func g) #[] lb, .func (.func sf) #[] sb], .int .i64 a, .int .i64 b, .int .i64 n] W fun e w' =>
      e = .returned (.tuple #[]) ∧ ∃ d', Swr d d' a b n ∧ SW (encN nn) W blk off d' w' := by
  have F1 := F.box (.cells #[.func (.func g) #[] lb, .func (.func sf) #[] sb] 79)
  have S1 := F.sw.alloc (.cells #[.func (.func g) #[] lb, .func (.func sf) #[] sb] 79)
  have hsz := F.sz
  have hlt := F.lt
  go_enter Tryd.func82, Tryd.ntmps82
  go_wp2
  go_loopg [8] n (fun k vi wr => ∃ (i : Nat) (dk : Array Nat), vi = .int .i64 i ∧ i ≤ n ∧ n - i ≤ k ∧ Swr d dk a b i ∧ SW (encN nn) (W.alloc (.cells #[.func (.func g) #[] lb, .func (.func sf) #[] sb] 79)) blk off dk wr)
  case atStart => exact ⟨0, d, rfl, by omega, by omega, Swr.start, F1.sw⟩
  case round =>
    obtain ⟨i, dk, rfl, hin', hk, hs, hw⟩ := hrel
    have Fk := F1.on hw hs.1
    have hsk := hs.1
    by_cases hin : i < n
    · have hiz : (i : Int) < (n : Int) := by omega
      have c1 : wr.cell? ⟨W.heap.size, 1, none⟩ = some (.func (.func sf) #[] sb) := by
        rw [sw_cell hw (by simp) (by omega)]; simp
      have hx := Fk.swap (i := a + i) (j := b + i) (by omega) (by omega)
      rw [Int.natCast_add, Int.natCast_add] at hx
      have hn := hw.swap F1.lt (a + i) (b + i) (by omega) (by omega)
      have A : Hid _ := hid (⟨hn, hs.step (by omega) (by omega)⟩ : _ ∧ _)
      clear hn hs hw Fk F1 S1 F
      go_wp2
      go_roundg (n - (i + 1))
      case measure => omega
      case rel => exact ⟨i + 1, _, by simp, by omega, by omega, A.out.2, A.out.1⟩
    · have hiz : ¬ (i : Int) < (n : Int) := by omega
      have hi : i = n := by omega
      subst hi
      go_wp2
      go_end0
      exact ⟨rfl, dk, hs, sw_trans F.lt S1 hw hs.1⟩

theorem Swr.none {n a b : Nat} (h : n = 0) : Swr d d a b n := by subst h; exact Swr.start
theorem Rot.lens {a m b : Nat} (h : Rot d d' a m b) : d'.size = d.size := h.1

set_option maxHeartbeats 2000000 in
set_option maxRecDepth 100000 in
theorem rotate_any (F : Fam nn g lb sf sb key blk off d W) (a m b : Nat) (h1 : a < m) (h2 : m < b) (h3 : b ≤ d.size) :
    Calls Tryd.prog 74 #[.agg #[.func (.func g) #[] lb, .func (.func sf) #[] sb], .int .i64 a, .int .i64 m, .int .i64 b] W fun e w' =>
      e = .returned (.tuple #[]) ∧ ∃ d', Rot d d' a m b ∧ SW (encN nn) W blk off d' w' := by
  have F1 := F.box (.cells #[.func (.func g) #[] lb, .func (.func sf) #[] sb] 79)
  have S1 := F.sw.alloc (.cells #[.func (.func g) #[] lb, .func (.func sf) #[] sb] 79)
  have hsz := F.sz
  have hlt := F.lt
  go_enter Tryd.func74, Tryd.ntmps74
  go_wp2
  go_loopg [8, 9] (b - a) (fun k vi vj wr => ∃ (i j : Nat) (dk : Array Nat), vi = .int .i64 i ∧ vj = .int .i64 j ∧ 0 < i ∧ 0 < j ∧ i ≤ m - a ∧ j ≤ b - m ∧ i + j ≤ k ∧ dk.size = d.size ∧ SW (encN nn) (W.alloc (.cells #[.func (.func g) #[] lb, .func (.func sf) #[] sb] 79)) blk off dk wr ∧
    ∀ e, Rot dk e (m - i) m (m + j) → Rot d e a m b)
  case atStart => exact ⟨m - a, b - m, d, by go_num, by go_num, by omega, by omega, by omega, by omega, by omega, rfl, F1.sw, fun e he => by rwa [show m - (m - a) = a by omega, show m + (b - m) = b by omega] at he⟩
  case round =>
    obtain ⟨i, j, dk, rfl, rfl, hi0, hj0, him, hjb, hk, hsk, hw, hR⟩ := hrel
    have Fk := F1.on hw hsk
    have c0 : wr.cell? ⟨W.heap.size, 0, none⟩ = some (.func (.func g) #[] lb) := by
      rw [sw_cell hw (by simp) (by omega)]; simp
    have c1 : wr.cell? ⟨W.heap.size, 1, none⟩ = some (.func (.func sf) #[] sb) := by
      rw [sw_cell hw (by simp) (by omega)]; simp
    rcases Nat.lt_trichotomy i j with hij | hij | hij
    · have hz : ¬ (i : Int) = (j : Int) := by omega
      have hz2 : ¬ (j : Int) < (i : Int) := by omega
      have hc := swapRange_any Fk (m - i) (m + j - i) i (by omega) (by omega)
      rw [show ((m - i : Nat) : Int) = (m : Int) - i by omega, show ((m + j - i : Nat) : Int) = (m : Int) + j - i by omega] at hc
      have A : Hid _ := hid (⟨hw, hR, F1.lt⟩ : _ ∧ _ ∧ _)
      clear Fk F1 S1 F hw hR
      go_wp2_with (go_at_call 82; refine hc.mono ?_; rintro e w1 ⟨rfl, dn, hs, hw1⟩)
      go_roundg (i + (j - i))
      case measure => omega
      case rel => exact ⟨i, j - i, dn, rfl, by go_num, hi0, by omega, him, by omega, by omega, by rw [hs.1, hsk], sw_trans A.out.2.2 A.out.1 hw1 hs.1, fun e he => A.out.2.1 e (rot_less hs (by omega) hij he)⟩
    · subst hij
      have hc := swapRange_any Fk (m - i) m i (by omega) (by omega)
      rw [show ((m - i : Nat) : Int) = (m : Int) - i by omega] at hc
      have A : Hid _ := hid (⟨hw, hR, F1.lt, S1, F.lt⟩ : _ ∧ _ ∧ _ ∧ _ ∧ _)
      clear Fk F1 S1 F hw hR
      go_wp2_with (go_at_call 82; refine hc.mono ?_; rintro e w1 ⟨rfl, dn, hs, hw1⟩)
      go_end0
      exact ⟨rfl, dn, A.out.2.1 dn (rot_same hs (by omega)), sw_trans A.out.2.2.2.2 A.out.2.2.2.1 (sw_trans A.out.2.2.1 A.out.1 hw1 hs.1) (by rw [hs.1, hsk])⟩
    · have hz : ¬ (i : Int) = (j : Int) := by omega
      have hz2 : (j : Int) < (i : Int) := by omega
      have hc := swapRange_any Fk (m - i) m j (by omega) (by omega)
      rw [show ((m - i : Nat) : Int) = (m : Int) - i by omega] at hc
      have A : Hid _ := hid (⟨hw, hR, F1.lt⟩ : _ ∧ _ ∧ _)
      clear Fk F1 S1 F hw hR
      go_wp2_with (go_at_call 82; refine hc.mono ?_; rintro e w1 ⟨rfl, dn, hs, hw1⟩)
      go_roundg (i - j + j)
      case measure => omega
      case rel => exact ⟨i - j, j, dn, by go_num, rfl, by omega, hj0, by omega, hjb, by omega, by rw [hs.1, hsk], sw_trans A.out.2.2 A.out.1 hw1 hs.1, fun e he => A.out.2.1 e (rot_more hs (by omega) hij he)⟩
end Go.Proofs.YtoiondgcjbdonaaDoor
