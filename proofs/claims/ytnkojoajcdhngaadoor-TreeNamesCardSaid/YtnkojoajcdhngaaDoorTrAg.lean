/- Layer 8: small. -/
import Derived.Test.YtnkojoajcdhngaaDoorTrQ
namespace Go.Proofs.YtnkojoajcdhngaaDoor
set_option linter.unusedVariables false
set_option linter.unusedSimpArgs false
set_option maxRecDepth 100000
open Go.RowKit Go.Shelf Go.Lib
attribute [local go_sem] Oper.semAt_some
set_option maxRecDepth 100000
set_option maxHeartbeats 16000000

def tT (n : Nat) : List Tri := [(nd0 4 ⟨#[97]⟩ [2, 1], .slice none 0 0, .slice (some ⟨n + 1 + 1, 0, none⟩) 2 2), (nd0 1 ⟨#[98]⟩ [], .slice none 0 0, .slice none 0 0), (nd0 4 ⟨#[98]⟩ [3], .slice none 0 0, .slice (some ⟨n + 1 + 1 + 1, 0, none⟩) 1 1), (nd0 1 ⟨#[99]⟩ [], .slice none 0 0, .slice none 0 0)]
def lT : List Tri := [(nd0 1 ⟨#[120]⟩ [], .slice none 0 0, .slice none 0 0)]
def smallO (n : Nat) : List Obj := [.cells #[.slice none 0 0] 25 (0, 0), .cells #[.slice none 0 0] 25 (0, 0), .cells #[.int .i64 2, .int .i64 1] 3 (0, 0), .cells #[.int .i64 3] 3 (0, 0), .cells (cellsT (tT n)).toArray 39 (0, 0),
  .cells #[.slice (some ⟨n + 1 + 1 + 1 + 1, 0, none⟩) 4 4] 25 (0, 0), .cells (cellsT lT).toArray 39 (0, 0), .cells #[.slice (some ⟨n + 1 + 1 + 1 + 1 + 1 + 1, 0, none⟩) 1 1] 25 (0, 0)]
theorem own_full {w : World} {g n : Nat} {T : List Tri} (h : w.heap[g]? = some (.cells (cellsT T).toArray 39 (0, 0))) (hn : T.length = n) (hm : n ≤ 1000) : w.ownsRow 0 39 19 (.slice (some ⟨g, 0, none⟩) n n) n (cellsT T) :=
  ⟨by rw [cellsT_len, hn], .inr ⟨g, n, _, rfl, Nat.zero_le _, h, Nat.le_refl _, by unfold maxLen; omega, by rw [List.size_toArray, cellsT_len, hn], by rw [← hn, ← cellsT_len]; simp⟩⟩
theorem triR_nil {B : Nat} {w : World} {k : Int} {nm : ByteArray} : TriR B w (nd0 k nm [], .slice none 0 0, .slice none 0 0) :=
  ⟨none, 0, none, 0, rfl, rfl, fun h => by simp [nd0, wrs] at h, fun h => by simp [nd0, ints] at h, fun _ => ⟨rfl, rfl⟩, fun _ => ⟨rfl, rfl⟩⟩
theorem triR_one {B g : Nat} {w : World} {k : Int} {nm : ByteArray} {ks : List Int} (h : w.heap[g]? = some (.cells (ints ks).toArray 3 (0, 0))) (hg : g < B) : TriR B w (nd0 k nm ks, .slice none 0 0, .slice (some ⟨g, 0, none⟩) ks.length ks.length) :=
  ⟨none, 0, some ⟨g, 0, none⟩, ks.length, rfl, rfl, fun h => by simp [nd0, wrs] at h, fun _ => ⟨g, 0, rfl, hg, fun j v hj => by
    rw [Nat.zero_add, blk_cell h]
    simpa [nd0] using hj⟩, fun _ => ⟨rfl, rfl⟩, fun e => by cases e⟩
theorem small_nds {n : Nat} {W : World} (g2 : W.heap[n + 1 + 1]? = some (.cells (ints [2, 1]).toArray 3 (0, 0))) (g3 : W.heap[n + 1 + 1 + 1]? = some (.cells (ints [3]).toArray 3 (0, 0))) (g4 : W.heap[n + 1 + 1 + 1 + 1]? = some (.cells (cellsT (tT n)).toArray 39 (0, 0))) (g6 : W.heap[n + 1 + 1 + 1 + 1 + 1 + 1]? = some (.cells (cellsT lT).toArray 39 (0, 0))) :
    NdsAt W.heap.size W (some ⟨n + 1 + 1 + 1 + 1, 0, none⟩) tS ∧ NdsAt W.heap.size W (some ⟨n + 1 + 1 + 1 + 1 + 1 + 1, 0, none⟩) lS := by
  have l2 := lt_of_block g2
  have l3 := lt_of_block g3
  refine ⟨nds_tri (B := W.heap.size) (T := tT n) (own_full (n := 4) g4 rfl (by decide)) rfl (fun t ht => ?_) (Nat.le_refl _), nds_tri (B := W.heap.size) (T := lT) (own_full (n := 1) g6 rfl (by decide)) rfl (fun t ht => ?_) (Nat.le_refl _)⟩
  · simp only [tT, List.mem_cons, List.not_mem_nil, or_false] at ht
    rcases ht with rfl | rfl | rfl | rfl
    · exact triR_one (ks := [2, 1]) g2 l2
    · exact triR_nil
    · exact triR_one (ks := [3]) g3 l3
    · exact triR_nil
  · simp only [lT, List.mem_cons, List.not_mem_nil, or_false] at ht
    subst ht
    exact triR_nil
theorem small_any (w : World) : Calls Tryd.prog 50 #[] w fun e w' => ∃ A1 A2, e = .returned (.tuple #[.agg #[.slice A1 4 4], .agg #[.slice A2 1 1]]) ∧ NdsAt w'.heap.size w' A1 tS ∧ NdsAt w'.heap.size w' A2 lS ∧ Below w.heap.size w w' := by
  obtain ⟨n, hn⟩ : ∃ n, w.heap.size = n := ⟨_, rfl⟩
  obtain ⟨W, hW⟩ : ∃ W, allocs w (smallO n) = W := ⟨_, rfl⟩
  have hb := allocs_below (smallO n) w
  have g0 := allocs_get (smallO n) w 0 _ rfl
  have g1 := allocs_get (smallO n) w 1 _ rfl
  have g5 := allocs_get (smallO n) w 5 _ rfl
  have g7 := allocs_get (smallO n) w 7 _ rfl
  have g2 := allocs_get (smallO n) w 2 _ rfl
  have g3 := allocs_get (smallO n) w 3 _ rfl
  have g4 := allocs_get (smallO n) w 4 _ rfl
  have g6 := allocs_get (smallO n) w 6 _ rfl
  rw [hW, hn] at g0 g1 g2 g3 g4 g5 g6 g7
  rw [hW, hn] at hb
  have b0 : Box1 W n _ := Box1.of_heap g0
  have b1 : Box1 W (n + 1) _ := Box1.of_heap g1
  have b5 : Box1 W (n + 1 + 1 + 1 + 1 + 1) _ := Box1.of_heap g5
  have b7 : Box1 W (n + 1 + 1 + 1 + 1 + 1 + 1 + 1) _ := Box1.of_heap g7
  have HW := hid hW
  have HG := hid (show _ ∧ _ ∧ _ ∧ _ from ⟨g2, g3, g4, g6⟩)
  have HB := hid hb
  have HN := hid hn
  have HB0 := hid b0
  have HB1 := hid b1
  have HB5 := hid b5
  have HB7 := hid b7
  clear hn hW hb g0 g1 g2 g3 g4 g5 g6 g7 b0 b1 b5 b7
  go_enter Tryd.func50, Tryd.ntmps50
  go_upto_region 3 with fail
  rw [HN.out]
  refine (show Code.wp _ _ _ _ (allocs w (smallO n)) from ?_)
  rw [HW.out]
  clear HW
  have k5 := HB5.out.c
  have k7 := HB7.out.c
  obtain ⟨c0, f0⟩ := HB0.out
  obtain ⟨c1, f1⟩ := HB1.out
  have l0 := HB0.out.lt
  have l1 := HB1.out.lt
  have hne0 : ∀ u, (W.drew.setCell ⟨n, 0, none⟩ u).cell? ⟨n + 1, 0, none⟩ = some (.slice none 0 0) := fun u => (((HB1.out.same rfl : Box1 W.drew (n + 1) _)).off (p := ⟨n, 0, none⟩) (by show n + 1 ≠ n; omega) u).c
  have hk5 : ∀ u, (W.drew.setCell ⟨n, 0, none⟩ u).cell? ⟨n + 1 + 1 + 1 + 1 + 1, 0, none⟩ = some (.slice (some ⟨n + 1 + 1 + 1 + 1, 0, none⟩) 4 4) := fun u => (((HB5.out.same rfl : Box1 W.drew _ _)).off (p := ⟨n, 0, none⟩) (by show n + 1 + 1 + 1 + 1 + 1 ≠ n; omega) u).c
  have hk7 : ∀ u, (W.drew.setCell ⟨n, 0, none⟩ u).cell? ⟨n + 1 + 1 + 1 + 1 + 1 + 1 + 1, 0, none⟩ = some (.slice (some ⟨n + 1 + 1 + 1 + 1 + 1 + 1, 0, none⟩) 1 1) := fun u => (((HB7.out.same rfl : Box1 W.drew _ _)).off (p := ⟨n, 0, none⟩) (by show n + 1 + 1 + 1 + 1 + 1 + 1 + 1 ≠ n; omega) u).c
  have hmx := mixed
  go_region
  have tE : Turn (fun k => k = n ∨ k = n + 1) W ((W.setCell ⟨n, 0, none⟩ (.slice (some ⟨n + 1 + 1 + 1 + 1, 0, none⟩) 4 4)).setCell ⟨n + 1, 0, none⟩ (.slice (some ⟨n + 1 + 1 + 1 + 1 + 1 + 1, 0, none⟩) 1 1)).drew :=
    ((Turn.set (C := fun k => k = n ∨ k = n + 1) (p := ⟨n, 0, none⟩) (.inl rfl) _).trans (Turn.set (C := fun k => k = n ∨ k = n + 1) (p := ⟨n + 1, 0, none⟩) (.inr rfl) _)).trans (Turn.of_below (Below.refl _ _).drew)
  obtain ⟨g2, g3, g4, g6⟩ := HG.out
  have hND := small_nds ((tE.block _ (lt_of_block g2) (by omega)).trans g2) ((tE.block _ (lt_of_block g3) (by omega)).trans g3) ((tE.block _ (lt_of_block g4) (by omega)).trans g4) ((tE.block _ (lt_of_block g6) (by omega)).trans g6)
  have hBE : Below n w _ := below_turn HB.out (Nat.le_of_eq HN.out.symm) tE (fun k hk => by omega)
  have p0 : Box1 ((W.setCell ⟨n, 0, none⟩ (.slice (some ⟨n + 1 + 1 + 1 + 1, 0, none⟩) 4 4)).setCell ⟨n + 1, 0, none⟩ (.slice (some ⟨n + 1 + 1 + 1 + 1 + 1 + 1, 0, none⟩) 1 1)).drew n (.slice (some ⟨n + 1 + 1 + 1 + 1, 0, none⟩) 4 4) := ((HB0.out.set _).off (p := ⟨n + 1, 0, none⟩) (by show n ≠ n + 1; omega) _).same rfl
  have p1 : Box1 ((W.setCell ⟨n, 0, none⟩ (.slice (some ⟨n + 1 + 1 + 1 + 1, 0, none⟩) 4 4)).setCell ⟨n + 1, 0, none⟩ (.slice (some ⟨n + 1 + 1 + 1 + 1 + 1 + 1, 0, none⟩) 1 1)).drew (n + 1) (.slice (some ⟨n + 1 + 1 + 1 + 1 + 1 + 1, 0, none⟩) 1 1) := ((HB1.out.off (p := ⟨n, 0, none⟩) (by show n + 1 ≠ n; omega) _).set _).same rfl
  have HND := hid hND
  have HBE := hid hBE
  clear hND hBE tE g2 g3 g4 g6 hne0 hk5 hk7 c0 c1 f0 f1 k5 k7
  generalize ((W.setCell ⟨n, 0, none⟩ (.slice (some ⟨n + 1 + 1 + 1 + 1, 0, none⟩) 4 4)).setCell ⟨n + 1, 0, none⟩ (.slice (some ⟨n + 1 + 1 + 1 + 1 + 1 + 1, 0, none⟩) 1 1)).drew = E at *
  obtain ⟨d0, _⟩ := p0
  obtain ⟨d1, _⟩ := p1
  go_wp2
  refine bodyPost_ret (v := .tuple #[.agg #[.slice (some ⟨n + 1 + 1 + 1 + 1, 0, none⟩) 4 4], .agg #[.slice (some ⟨n + 1 + 1 + 1 + 1 + 1 + 1, 0, none⟩) 1 1]]) (by simp [results, Tryd.results50, go_sem, *]) rfl ⟨_, _, rfl, HND.out.1, HND.out.2, by rw [HN.out]; exact HBE.out⟩
end Go.Proofs.YtnkojoajcdhngaaDoor

/- Layer 8: alive. -/
namespace Go.Proofs.YtnkojoajcdhngaaDoor
set_option linter.unusedVariables false
set_option linter.unusedSimpArgs false
set_option maxRecDepth 100000
open Go.RowKit Go.Shelf Go.Lib
attribute [local go_sem] Oper.semAt_some
set_option maxRecDepth 100000
set_option maxHeartbeats 16000000

theorem nd0_ok {k : Int} {nm : ByteArray} {ks : List Int} (h1 : 0 ≤ k) (h2 : k ≤ 255) (h3 : nm.size ≤ 1000) (h4 : ks.length ≤ 1000) : (nd0 k nm ks).ok := by
  refine ⟨⟨h1, h2⟩, ?_, ?_, ?_, ?_, ?_, ?_⟩
  · show nm.size ≤ _
    omega
  · show 0 ≤ _
    decide
  · show 0 ≤ _
    decide
  · intro t ht
    simp [nd0] at ht
  · show 0 ≤ _
    decide
  · show ks.length ≤ _
    omega
theorem tS_ok : ∀ n ∈ tS, n.ok := by
  intro n hn
  simp only [tS, List.mem_cons, List.not_mem_nil, or_false] at hn
  rcases hn with rfl | rfl | rfl | rfl <;> exact nd0_ok (by decide) (by decide) (by decide) (by decide)
theorem lS_ok : ∀ n ∈ lS, n.ok := by
  intro n hn
  simp only [lS, List.mem_cons, List.not_mem_nil, or_false] at hn
  rcases hn with rfl
  exact nd0_ok (by decide) (by decide) (by decide) (by decide)
/-- The boxes of the two specs, and what they hold. -/
structure AlS (b : Nat) (A1 A2 : Option Addr) (w : World) : Prop where
  t : Box1 w b (.slice A1 4 4)
  l : Box1 w (b + 1) (.slice A2 1 1)
  n1 : NdsAt b w A1 tS
  n2 : NdsAt b w A2 lS
  tb : TabsL w
theorem AlS.on {b : Nat} {A1 A2 : Option Addr} {w w' : World} (h : AlS b A1 A2 w) (hb : Below w.heap.size w w') : AlS b A1 A2 w' := by
  have hl := h.t.lt
  exact ⟨h.t.below hb h.t.lt, h.l.below hb h.l.lt, h.n1.below (hb.mono (by omega)), h.n2.below (hb.mono (by omega)), tabsL_on h.tb hb⟩
section
variable {b : Nat} {A1 A2 : Option Addr} {w : World}
theorem AlS.path (h : AlS b A1 A2 w) : Calls Tryd.prog 29 #[.agg #[.slice A1 4 4], .int .i64 3] w fun e w' => ∃ A c, e = .returned (.tuple #[.slice A 3 c, .int .i64 0]) ∧ At w'.heap.size w' A (ints [0, 2, 3]) ∧ Below w.heap.size w w' := by
  have hl := h.t.lt
  have C := Path_any tS tS_ok A1 4 3 w h.tb.1 h.n1 (by omega) (by decide)
  rw [tS_path, tS_ask3] at C
  refine C.mono ?_
  rintro e w' ⟨v, rfl, ho, hb⟩
  obtain ⟨A, c, rfl⟩ := own_shape ho
  exact ⟨A, c, rfl, At.of_own ho, hb⟩
theorem AlS.find (h : AlS b A1 A2 w) : Calls Tryd.prog 31 #[.agg #[.slice A1 4 4], .string { data := #[98] }] w fun e w' => e = .returned (.tuple #[.int .i64 2, .int .i64 0]) ∧ Below w.heap.size w w' := by
  have hl := h.t.lt
  have C := Find_any tS tS_ok A1 4 { data := #[98] } w h.tb.1 h.n1 (by omega) (by decide)
  rw [tS_fnd] at C
  exact C
theorem AlS.named (h : AlS b A1 A2 w) : Calls Tryd.prog 32 #[.agg #[.slice A1 4 4], .string { data := #[97, 47, 98, 47, 99] }] w fun e w' => e = .returned (.tuple #[.int .i64 3, .int .i64 0]) ∧ Below w.heap.size w w' := by
  have hl := h.t.lt
  have C := Named_any tS tS_ok A1 4 { data := #[97, 47, 98, 47, 99] } w h.tb h.n1 (by omega) (by decide) (by decide)
  rw [tS_named] at C
  exact C
def qS : List Nd := [nd0 4 ⟨#[97]⟩ [1, 3, 4], nd0 4 ⟨#[98]⟩ [2], nd0 1 ⟨#[99]⟩ [], nd0 1 ⟨#[120]⟩ [], nd0 1 ⟨#[98]⟩ []]
def kS : List Nd := [nd0 4 ⟨#[97]⟩ [1], nd0 1 ⟨#[98]⟩ []]
def cS : List Nd := [nd0 4 ⟨#[98]⟩ [1], nd0 1 ⟨#[99]⟩ []]
def SpL (w : World) (R : List Nd) (m : Nat) (z : Int) (e : Ending) (w' : World) : Prop := ∃ A c, e = .returned (.tuple #[.agg #[.slice A m c], .int .i64 z]) ∧ NdsAt w'.heap.size w' A R ∧ Below w.heap.size w w'
theorem SpcP.lit {R : List Nd} {m : Nat} {z : Int} {e : Ending} {w' : World} (h : SpcP w R z e w') (hm : R.length = m) : SpL w R m z e w' := by
  obtain ⟨A, c, h1, h2, h3⟩ := h
  subst hm
  exact ⟨A, c, h1, h2.nds.1, h3⟩
theorem AlS.put (h : AlS b A1 A2 w) : Calls Tryd.prog 14 #[.agg #[.slice A1 4 4], .int .i64 0, .int .i64 1, .agg #[.slice A2 1 1]] w (SpL w qS 5 0) := by
  have hl := h.t.lt
  have C := Put_any tS lS tS_ok lS_ok A1 A2 4 1 0 1 w h.tb.1 h.n1 h.n2 (by omega) (by decide) (by decide)
  rw [tS_put] at C
  exact C.mono fun _ _ h => h.lit rfl
theorem AlS.put2 (h : AlS b A1 A2 w) : Calls Tryd.prog 14 #[.agg #[.slice A1 4 4], .int .i64 1, .int .i64 0, .agg #[.slice A2 1 1]] w (SpL w [] 0 6) := by
  have hl := h.t.lt
  have C := Put_any tS lS tS_ok lS_ok A1 A2 4 1 1 0 w h.tb.1 h.n1 h.n2 (by omega) (by decide) (by decide)
  rw [tS_put2] at C
  exact C.mono fun _ _ h => h.lit rfl
theorem AlS.take (h : AlS b A1 A2 w) : Calls Tryd.prog 19 #[.agg #[.slice A1 4 4], .int .i64 2] w (SpL w kS 2 0) := by
  have hl := h.t.lt
  have C := Take_any tS tS_ok A1 4 2 w h.tb.1 h.n1 (by omega) (by decide)
  rw [tS_take] at C
  exact C.mono fun _ _ h => h.lit rfl
theorem AlS.move (h : AlS b A1 A2 w) : Calls Tryd.prog 20 #[.agg #[.slice A1 4 4], .int .i64 2, .int .i64 3, .int .i64 0] w (SpL w [] 0 80) := by
  have hl := h.t.lt
  have C := Move_any tS tS_ok A1 4 2 3 0 w h.tb.1 h.n1 (by omega) (by decide)
  rw [tS_move] at C
  exact C.mono fun _ _ h => h.lit rfl
theorem AlS.cut (h : AlS b A1 A2 w) : Calls Tryd.prog 33 #[.agg #[.slice A1 4 4], .int .i64 2] w (SpL w cS 2 0) := by
  have hl := h.t.lt
  have C := Cut_any tS tS_ok A1 4 2 w h.tb.1 h.n1 (by omega) (by decide)
  rw [tS_cut, tS_ask2] at C
  exact C.mono fun _ _ h => h.lit rfl
theorem AlS.check (h : AlS b A1 A2 w) : Calls Tryd.prog 12 #[.agg #[.slice A1 4 4]] w fun e w' => e = .returned (.int .i64 0) ∧ Below w.heap.size w w' := by
  have hl := h.t.lt
  have C := TCheck_any tS tS_ok A1 4 w h.tb.1 h.n1 (by omega)
  unfold chkC at C
  rw [if_pos tS_chk] at C
  exact C
theorem AlS.same (h : AlS b A1 A2 w) : Calls Tryd.prog 25 #[.agg #[.slice A1 4 4], .agg #[.slice A1 4 4]] w fun e w' => e = .returned (.bool true) ∧ Below w.heap.size w w' := by
  have hl := h.t.lt
  have C := Same_any tS tS tS_ok tS_ok A1 A1 4 4 w h.n1 h.n1 (by omega) (by decide)
  rw [tS_same] at C
  exact C
theorem AlS.diff (h : AlS b A1 A2 w) : Calls Tryd.prog 25 #[.agg #[.slice A1 4 4], .agg #[.slice A2 1 1]] w fun e w' => e = .returned (.bool false) ∧ Below w.heap.size w w' := by
  have hl := h.t.lt
  have C := Same_any tS lS tS_ok lS_ok A1 A2 4 1 w h.n1 h.n2 (by omega) (by decide)
  rw [tS_differ] at C
  exact C
end
end Go.Proofs.YtnkojoajcdhngaaDoor

/- Layer 8: alive. -/
namespace Go.Proofs.YtnkojoajcdhngaaDoor
set_option linter.unusedVariables false
set_option linter.unusedSimpArgs false
set_option maxRecDepth 100000
open Go.RowKit Go.Shelf Go.Lib
attribute [local go_sem] Oper.semAt_some
set_option maxRecDepth 100000
set_option maxHeartbeats 16000000

theorem alive_any (w : World) (hT : TabsL w) : Calls Tryd.prog 10 #[] w fun e w' => e = .returned (.bool true) ∧ Below w.heap.size w w' := by
  have C := small_any w
  have HT := hid hT
  clear hT
  go_enter Tryd.func10, Tryd.ntmps10
  go_wp2_with fail
  with_reducible refine C.mono ?_
  rintro e w1 ⟨A1, A2, rfl, n1, n2, hb1⟩
  obtain ⟨b, hb⟩ : ∃ b, w1.heap.size = b := ⟨_, rfl⟩
  obtain ⟨X0, hX0⟩ : ∃ X, (w1.alloc (.cells #[.slice A1 4 4] 25)).alloc (.cells #[.slice A2 1 1] 25) = X := ⟨_, rfl⟩
  have hbX : Below w1.heap.size w1 X0 := by
    rw [← hX0]
    exact ((Below.refl _ _).alloc (Nat.le_refl _) _).alloc (by simp) _
  have hS : AlS b A1 A2 X0 := by
    refine ⟨Box1.of_heap (t := 25) ?_, Box1.of_heap (t := 25) ?_, by rw [← hb]; exact n1.below hbX, by rw [← hb]; exact n2.below hbX, tabsL_on HT.out (hb1.trans (hbX.mono hb1.size))⟩
    · rw [← hX0, Below.heap_alloc _ _ _ (by simp; omega), ← hb]
      exact World.alloc_heap_new _ _
    · rw [← hX0, ← hb]
      have := World.alloc_heap_new (w1.alloc (.cells #[.slice A1 4 4] 25)) (.cells #[.slice A2 1 1] 25)
      rwa [World.size_alloc] at this
  have HX0 := hid hX0
  have HBE := hid hb
  have HS := hid hS
  have HBW := hid (hb1.trans (hbX.mono hb1.size))
  have ct := hS.t.c
  have cl := hS.l.c
  clear C n1 n2 hb1 hb hX0 hbX hS
  go_upto_region 2 with fail
  rw [HBE.out, HX0.out]
  clear HX0
  go_wp2_with fail
  with_reducible refine HS.out.path.mono ?_
  rintro e v0 ⟨Ap, cp, rfl, hap, hbk⟩
  have HAP := hid hap
  have sp := hid (rfl : v0.heap.size = v0.heap.size)
  clear hap
  have HS2 := hid (HS.out.on hbk)
  have HBW2 := hid (HBW.out.trans (hbk.mono HBW.out.size))
  have HK0 := hid hbk
  clear HS HBW ct cl hbk
  have HS := HS2
  have HBW := HBW2
  clear HS2 HBW2
  have ct := HS.out.t.c
  have cl := HS.out.l.c
  go_wp2_with fail
  with_reducible refine HS.out.find.mono ?_
  rintro e v1 ⟨rfl, hbk⟩
  have HS2 := hid (HS.out.on hbk)
  have HBW2 := hid (HBW.out.trans (hbk.mono HBW.out.size))
  have HK1 := hid hbk
  clear HS HBW ct cl hbk
  have HS := HS2
  have HBW := HBW2
  clear HS2 HBW2
  have ct := HS.out.t.c
  have cl := HS.out.l.c
  go_wp2_with fail
  with_reducible refine HS.out.named.mono ?_
  rintro e v2 ⟨rfl, hbk⟩
  have HS2 := hid (HS.out.on hbk)
  have HBW2 := hid (HBW.out.trans (hbk.mono HBW.out.size))
  have HK2 := hid hbk
  clear HS HBW ct cl hbk
  have HS := HS2
  have HBW := HBW2
  clear HS2 HBW2
  have ct := HS.out.t.c
  have cl := HS.out.l.c
  go_wp2_with fail
  with_reducible refine HS.out.put.mono ?_
  rintro e v3 ⟨B3, c3, rfl, hnd3, hbk⟩
  have HS2 := hid (HS.out.on hbk)
  have HBW2 := hid (HBW.out.trans (hbk.mono HBW.out.size))
  have HK3 := hid hbk
  clear HS HBW ct cl hbk
  have HS := HS2
  have HBW := HBW2
  clear HS2 HBW2
  have ct := HS.out.t.c
  have cl := HS.out.l.c
  obtain ⟨Y3, hY3⟩ : ∃ X, v3.alloc (.cells #[.slice B3 5 c3] 25) = X := ⟨_, rfl⟩
  have hbk : Below v3.heap.size v3 Y3 := by
    rw [← hY3]
    exact (Below.refl _ _).alloc (Nat.le_refl _) _
  have HB3 := hid (show Box1 Y3 v3.heap.size (.slice B3 5 c3) by
    rw [← hY3]
    exact Box1.of_heap (World.alloc_heap_new _ _))
  have HN3 := hid (hnd3.below hbk)
  have HX3 := hid hY3
  have HS2 := hid (HS.out.on hbk)
  have HBW2 := hid (HBW.out.trans (hbk.mono HBW.out.size))
  have HL3 := hid hbk
  clear HS HBW ct cl hbk hnd3 hY3
  have HS := HS2
  have HBW := HBW2
  clear HS2 HBW2
  have ct := HS.out.t.c
  have cl := HS.out.l.c
  go_upto_region 6 with fail
  rw [HX3.out]
  clear HX3
  go_wp2_with fail
  with_reducible refine HS.out.take.mono ?_
  rintro e v4 ⟨B4, c4, rfl, hnd4, hbk⟩
  have HS2 := hid (HS.out.on hbk)
  have HBW2 := hid (HBW.out.trans (hbk.mono HBW.out.size))
  have HK4 := hid hbk
  clear HS HBW ct cl hbk
  have HS := HS2
  have HBW := HBW2
  clear HS2 HBW2
  have ct := HS.out.t.c
  have cl := HS.out.l.c
  obtain ⟨Y4, hY4⟩ : ∃ X, v4.alloc (.cells #[.slice B4 2 c4] 25) = X := ⟨_, rfl⟩
  have hbk : Below v4.heap.size v4 Y4 := by
    rw [← hY4]
    exact (Below.refl _ _).alloc (Nat.le_refl _) _
  have HB4 := hid (show Box1 Y4 v4.heap.size (.slice B4 2 c4) by
    rw [← hY4]
    exact Box1.of_heap (World.alloc_heap_new _ _))
  have HN4 := hid (hnd4.below hbk)
  have HX4 := hid hY4
  have HS2 := hid (HS.out.on hbk)
  have HBW2 := hid (HBW.out.trans (hbk.mono HBW.out.size))
  have HL4 := hid hbk
  clear HS HBW ct cl hbk hnd4 hY4
  have HS := HS2
  have HBW := HBW2
  clear HS2 HBW2
  have ct := HS.out.t.c
  have cl := HS.out.l.c
  go_upto_region 7 with fail
  rw [HX4.out]
  clear HX4
  go_wp2_with fail
  with_reducible refine HS.out.move.mono ?_
  rintro e v5 ⟨B5, c5, rfl, hnd5, hbk⟩
  have HS2 := hid (HS.out.on hbk)
  have HBW2 := hid (HBW.out.trans (hbk.mono HBW.out.size))
  have HK5 := hid hbk
  clear HS HBW ct cl hbk
  have HS := HS2
  have HBW := HBW2
  clear HS2 HBW2
  have ct := HS.out.t.c
  have cl := HS.out.l.c
  obtain ⟨Y5, hY5⟩ : ∃ X, v5.alloc (.cells #[.slice B5 0 c5] 25) = X := ⟨_, rfl⟩
  have hbk : Below v5.heap.size v5 Y5 := by
    rw [← hY5]
    exact (Below.refl _ _).alloc (Nat.le_refl _) _
  have HB5 := hid (show Box1 Y5 v5.heap.size (.slice B5 0 c5) by
    rw [← hY5]
    exact Box1.of_heap (World.alloc_heap_new _ _))
  have HN5 := hid (hnd5.below hbk)
  have HX5 := hid hY5
  have HS2 := hid (HS.out.on hbk)
  have HBW2 := hid (HBW.out.trans (hbk.mono HBW.out.size))
  have HL5 := hid hbk
  clear HS HBW ct cl hbk hnd5 hY5
  have HS := HS2
  have HBW := HBW2
  clear HS2 HBW2
  have ct := HS.out.t.c
  have cl := HS.out.l.c
  go_upto_region 8 with fail
  rw [HX5.out]
  clear HX5
  go_wp2_with fail
  with_reducible refine HS.out.put2.mono ?_
  rintro e v6 ⟨B6, c6, rfl, hnd6, hbk⟩
  have HS2 := hid (HS.out.on hbk)
  have HBW2 := hid (HBW.out.trans (hbk.mono HBW.out.size))
  have HK6 := hid hbk
  clear HS HBW ct cl hbk
  have HS := HS2
  have HBW := HBW2
  clear HS2 HBW2
  have ct := HS.out.t.c
  have cl := HS.out.l.c
  obtain ⟨Y6, hY6⟩ : ∃ X, v6.alloc (.cells #[.slice B6 0 c6] 25) = X := ⟨_, rfl⟩
  have hbk : Below v6.heap.size v6 Y6 := by
    rw [← hY6]
    exact (Below.refl _ _).alloc (Nat.le_refl _) _
  have HB6 := hid (show Box1 Y6 v6.heap.size (.slice B6 0 c6) by
    rw [← hY6]
    exact Box1.of_heap (World.alloc_heap_new _ _))
  have HN6 := hid (hnd6.below hbk)
  have HX6 := hid hY6
  have HS2 := hid (HS.out.on hbk)
  have HBW2 := hid (HBW.out.trans (hbk.mono HBW.out.size))
  have HL6 := hid hbk
  clear HS HBW ct cl hbk hnd6 hY6
  have HS := HS2
  have HBW := HBW2
  clear HS2 HBW2
  have ct := HS.out.t.c
  have cl := HS.out.l.c
  go_upto_region 9 with fail
  rw [HX6.out]
  clear HX6
  go_wp2_with fail
  with_reducible refine HS.out.cut.mono ?_
  rintro e v7 ⟨B7, c7, rfl, hnd7, hbk⟩
  have HS2 := hid (HS.out.on hbk)
  have HBW2 := hid (HBW.out.trans (hbk.mono HBW.out.size))
  have HK7 := hid hbk
  clear HS HBW ct cl hbk
  have HS := HS2
  have HBW := HBW2
  clear HS2 HBW2
  have ct := HS.out.t.c
  have cl := HS.out.l.c
  obtain ⟨Y7, hY7⟩ : ∃ X, v7.alloc (.cells #[.slice B7 2 c7] 25) = X := ⟨_, rfl⟩
  have hbk : Below v7.heap.size v7 Y7 := by
    rw [← hY7]
    exact (Below.refl _ _).alloc (Nat.le_refl _) _
  have HB7 := hid (show Box1 Y7 v7.heap.size (.slice B7 2 c7) by
    rw [← hY7]
    exact Box1.of_heap (World.alloc_heap_new _ _))
  have HN7 := hid (hnd7.below hbk)
  have HX7 := hid hY7
  have HS2 := hid (HS.out.on hbk)
  have HBW2 := hid (HBW.out.trans (hbk.mono HBW.out.size))
  have HL7 := hid hbk
  clear HS HBW ct cl hbk hnd7 hY7
  have HS := HS2
  have HBW := HBW2
  clear HS2 HBW2
  have ct := HS.out.t.c
  have cl := HS.out.l.c
  go_upto_region 10 with fail
  rw [HX7.out]
  clear HX7
  have D_v7 := hid HL7.out
  have D_Y6 := hid (HK7.out.trans (D_v7.out.mono HK7.out.size))
  have D_v6 := hid (HL6.out.trans (D_Y6.out.mono HL6.out.size))
  have D_Y5 := hid (HK6.out.trans (D_v6.out.mono HK6.out.size))
  have D_v5 := hid (HL5.out.trans (D_Y5.out.mono HL5.out.size))
  have D_Y4 := hid (HK5.out.trans (D_v5.out.mono HK5.out.size))
  have D_v4 := hid (HL4.out.trans (D_Y4.out.mono HL4.out.size))
  have D_Y3 := hid (HK4.out.trans (D_v4.out.mono HK4.out.size))
  have D_v3 := hid (HL3.out.trans (D_Y3.out.mono HL3.out.size))
  have D_v2 := hid (HK3.out.trans (D_v3.out.mono HK3.out.size))
  have D_v1 := hid (HK2.out.trans (D_v2.out.mono HK2.out.size))
  have D_v0 := hid (HK1.out.trans (D_v1.out.mono HK1.out.size))
  have D_X0 := hid (HK0.out.trans (D_v0.out.mono HK0.out.size))
  obtain ⟨gp, op, rfl, hgp, cP⟩ := (HAP.out.below D_v0.out).int (k := 1) (by decide)
  replace cP : Y7.cell? ⟨gp, op + 1, none⟩ = some (.int .i64 2) := cP
  have b3 := (HB3.out.below D_Y3.out HB3.out.lt).c
  have b4 := (HB4.out.below D_Y4.out HB4.out.lt).c
  have b7 := HB7.out.c
  have lp : gp < Y7.heap.size := by have := D_v0.out.size; omega
  obtain ⟨g3, o3, rfl, hg3, n3⟩ := (HN3.out.below (D_Y3.out.mono HL3.out.size)).name (i := 3) (by decide)
  replace n3 : Y7.cell? ⟨g3, o3 + 57 + 1, none⟩ = some (.string ⟨#[120]⟩) := n3
  obtain ⟨g4, o4, rfl, hg4, n4⟩ := (HN4.out.below (D_Y4.out.mono HL4.out.size)).name (i := 1) (by decide)
  replace n4 : Y7.cell? ⟨g4, o4 + 19 + 1, none⟩ = some (.string ⟨#[98]⟩) := n4
  obtain ⟨g7, o7, rfl, hg7, n7⟩ := HN7.out.name (i := 1) (by decide)
  replace n7 : Y7.cell? ⟨g7, o7 + 19 + 1, none⟩ = some (.string ⟨#[99]⟩) := n7
  have lg3 : g3 < Y7.heap.size := by have := D_Y3.out.size; have := HL3.out.size; omega
  have lg4 : g4 < Y7.heap.size := by have := D_Y4.out.size; have := HL4.out.size; omega
  have lg7 : g7 < Y7.heap.size := by have := HL7.out.size; omega
  have hz3 : (ByteArray.mk #[120]).toList = [120] := by rw [ByteArray.toList_eq]
  have hz4 : (ByteArray.mk #[98]).toList = [98] := by rw [ByteArray.toList_eq]
  have hz7 : (ByteArray.mk #[99]).toList = [99] := by rw [ByteArray.toList_eq]
  go_wp2_with fail
  with_reducible refine HS.out.check.mono ?_
  rintro e v8 ⟨rfl, hbk⟩
  have HS8 := hid (HS.out.on hbk)
  have HW8 := hid (HBW.out.trans (hbk.mono HBW.out.size))
  clear ct cl cP b3 b4 b7 n3 n4 n7 hbk
  have ct := HS8.out.t.c
  have cl := HS8.out.l.c
  go_wp2_with fail
  with_reducible refine HS8.out.same.mono ?_
  rintro e v9 ⟨rfl, hbk⟩
  have HS9 := hid (HS8.out.on hbk)
  have HW9 := hid (HW8.out.trans (hbk.mono HW8.out.size))
  clear ct cl hbk
  have ct := HS9.out.t.c
  have cl := HS9.out.l.c
  go_wp2_with fail
  with_reducible refine HS9.out.diff.mono ?_
  rintro e v10 ⟨rfl, hbk⟩
  have HW10 := hid (HW9.out.trans (hbk.mono HW9.out.size))
  clear ct cl hbk
  go_wp2
  refine bodyPost_ret (v := .bool true) (by simp [results, Tryd.results10, go_sem, *]) rfl ⟨rfl, HW10.out⟩
end Go.Proofs.YtnkojoajcdhngaaDoor
