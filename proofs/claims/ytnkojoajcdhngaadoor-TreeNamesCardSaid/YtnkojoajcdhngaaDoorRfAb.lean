/- A range over a function whose iterator keeps state of its own in cells (a captured variable that it writes between two rounds): one law for the caller. -/
import Derived.RangeFuncNested
import Derived.RangeFuncCalls
import Derived.RangeFuncLeaves
import Derived.Shelf.Abstract
import Derived.Shelf.RegionOpen
import Derived.WalkKit
import Derived.OwnWalkIn
import Derived.TacticsInMore
import Derived.LoopNIn
import Derived.LoopIn
namespace Go.Proofs.YtnkojoajcdhngaaDoor
set_option linter.unusedVariables false
set_option linter.unusedSimpArgs false
set_option maxRecDepth 100000
open Go.RowKit

/-- All blocks of W but those of C stand in W'; the streams stand. -/
structure Turn (C : Nat → Prop) (W W' : World) : Prop where
  os : W'.os = W.os
  tape : W'.tape = W.tape
  output : W'.output = W.output
  size : W.heap.size ≤ W'.heap.size
  block : ∀ k, k < W.heap.size → ¬ C k → W'.heap[k]? = W.heap[k]?
theorem Turn.refl (C : Nat → Prop) (W : World) : Turn C W W := ⟨rfl, rfl, rfl, Nat.le_refl _, fun _ _ _ => rfl⟩
theorem Turn.trans {C : Nat → Prop} {A B D : World} (h : Turn C A B) (k : Turn C B D) : Turn C A D :=
  ⟨k.os.trans h.os, k.tape.trans h.tape, k.output.trans h.output, Nat.le_trans h.size k.size, fun i hi hc => (k.block i (Nat.lt_of_lt_of_le hi h.size) hc).trans (h.block i hi hc)⟩
theorem Turn.of_below {C : Nat → Prop} {W W' : World} (h : Below W.heap.size W W') : Turn C W W' := ⟨h.os, h.tape, h.output, h.size, fun k hk _ => h.block k hk⟩
theorem Turn.wider {C C' : Nat → Prop} {W W' : World} (h : Turn C W W') (hc : ∀ k, C k → C' k) : Turn C' W W' := ⟨h.os, h.tape, h.output, h.size, fun k hk hn => h.block k hk (fun x => hn (hc k x))⟩
theorem Turn.alloc (C : Nat → Prop) (W : World) (o : Obj) : Turn C W (W.alloc o) := .of_below ((Below.refl _ W).alloc (Nat.le_refl _) o)
theorem Turn.set {C : Nat → Prop} {W : World} {p : Addr} (hp : C p.block) (v : Value) : Turn C W (W.setCell p v) :=
  ⟨rfl, rfl, rfl, by simp [World.setCell], fun k _ hn => Below.heap_setCell W p v k (fun e => hn (by rw [e]; exact hp))⟩
theorem Turn.put {C : Nat → Prop} {W : World} {l : Nat} (hl : C l) (o : Obj) : Turn C W (W.putObj l o) :=
  ⟨rfl, rfl, rfl, by simp, fun k _ hn => World.putObj_heap_other (fun e => hn (by rw [e]; exact hl))⟩
/-- What is said of the world abides a turn of the blocks of C. -/
def Firm {β : Type} (C : Nat → Prop) (J : β → World → Prop) : Prop := ∀ s W W', J s W → Turn C W W' → J s W'
/-- The blocks of R stand. -/
def Pin (R : Nat → Prop) (W W' : World) : Prop := W.heap.size ≤ W'.heap.size ∧ ∀ k, R k → W'.heap[k]? = W.heap[k]?
theorem Pin.refl (R : Nat → Prop) (W : World) : Pin R W W := ⟨Nat.le_refl _, fun _ _ => rfl⟩
theorem Pin.trans {R : Nat → Prop} {A B D : World} (h : Pin R A B) (k : Pin R B D) : Pin R A D := ⟨Nat.le_trans h.1 k.1, fun i hi => (k.2 i hi).trans (h.2 i hi)⟩
theorem Pin.put {R : Nat → Prop} {W : World} {l : Nat} (hl : ¬ R l) (o : Obj) : Pin R W (W.putObj l o) := ⟨by simp, fun k hk => World.putObj_heap_other (fun e => hl (by rw [← e]; exact hk))⟩

/-- The contract of an iterator that turns the blocks Ci of its own, and reads the blocks R between two rounds. -/
def Iter {α : Type} (F : Fence) (n : Nat) (P : Program) (gf : Nat) (lb : Array Value) (encs : α → Array Value) (Ci R : Nat → Prop) (S Sp : List α → Prop) (w0 : World) : Prop :=
  ∀ (l : Nat) (J Jx : List α → World → Prop) (W : World), Turn (fun _ => False) w0 W → Firm Ci J → Firm Ci Jx →
    (∀ pre x W1, J pre W1 → Sp (pre ++ [x]) → YieldAt F (n - 1) P l (encs x) W1 fun e W' => (e = .returned (.bool true) ∧ J (pre ++ [x]) W' ∧ Pin R W1 W') ∨ (e = .returned (.bool false) ∧ Jx (pre ++ [x]) W')) →
    J [] W →
    CallsIn F n P gf (#[.func (.yield l) #[] #[]] ++ lb) W fun e W' => (∃ v, e = .returned v) ∧ ((∃ xs, S xs ∧ J xs W') ∨ (∃ pre, Sp pre ∧ Jx pre W'))

/-- How a round's body may be left. -/
def leftBy {α : Type} (R : Nat → Prop) (I : List α → World → Prop) (Ix : Code → List α → World → Prop) (xs : List α) (W : World) : Exit → Act → World → Prop
  | .normal, _, W' => KeepsOthers W W' ∧ Pin R W W' ∧ I xs W'
  | .ret, _, W' => KeepsOthers W W' ∧ Ix .ret xs W'
  | .exit id, _, W' => KeepsOthers W W' ∧ Ix (.exit id) xs W'
  | .goto t, _, W' => KeepsOthers W W' ∧ Ix (.goto t) xs W'
  | .panic _, _, _ => False
  | .outgrown, _, _ => False

/-- The statement 'for .. := range g { .. }' over such an iterator. The blocks w.heap.size (the rounds' deferred calls) and the next one (the loop's record) are the loop's own. -/
theorem wp_rangeIter {F : Fence} {n : Nat} {P : Program} {α : Type} {g : Operand} {ps : Array Tmp} {assign body : Code} {Q : Exit → Act → World → Prop} {a : Act} {w : World}
    (hro : F.round = none) (h1 : 1 ≤ n) {gf : Nat} {lb : Array Value} (hg : a.eval g = .func (.func gf) #[] lb) (hFg : F.fn gf) (eg : ∀ args w, (callFunc gf args).run P w = .ok (.enter gf args) w)
    {encs : α → Array Value} {Ci R : Nat → Prop} {S Sp : List α → Prop} (hit : Iter F (n - 1) P gf lb encs Ci R S Sp w) (hCi : ∀ k, Ci k → k < w.heap.size) (hR : ∀ k, R k → k < w.heap.size)
    (hps : ∀ x, (encs x).size = ps.size) (I : List α → World → Prop) (Ix : Code → List α → World → Prop)
    (hI : Firm (fun k => Ci k ∨ k = w.heap.size ∨ k = w.heap.size + 1) I) (hIx : ∀ c, Firm (fun k => Ci k ∨ k = w.heap.size ∨ k = w.heap.size + 1) (Ix c)) (h0 : I [] w) (a₁ : α → Act)
    (hassign : ∀ (l : Nat) (x : α) (W : World) (K : Act → World → Prop), K (a₁ x) W →
      assign.wpIn (F.inRound l) (n - 1 - 1) P (Exit.then K (fun _ _ _ => False)) { tmps := (ps.zip (encs x)).foldl (fun t (p, v) => t.setIfInBounds p v) a.tmps, defers := [] } W)
    (hbody : ∀ (l : Nat) (pre : List α) (x : α) (W : World), I pre W → Sp (pre ++ [x]) → w.heap.size + 1 < W.heap.size → body.wpIn (F.inRound l) (n - 1 - 1) P (leftBy R I Ix (pre ++ [x]) W) (a₁ x) W)
    (hdone : ∀ (xs : List α) (W : World), S xs → I xs W → W.heap[w.heap.size]? = some (.deferred (some [])) → Q .normal { a with defers := { target := .collected w.heap.size, args := #[] } :: a.defers } W)
    (hstop : ∀ (c : Code) (pre : List α) (W : World), Sp pre → Ix c pre W → W.heap[w.heap.size]? = some (.deferred (some [])) → c.wpIn F n P Q { a with defers := { target := .collected w.heap.size, args := #[] } :: a.defers } W) :
    (Code.rangeFunc g ps assign body).wpIn F n P Q a w := by
  refine wpIn_rangeFunc (fun fn hfn => ?_)
  rw [hro]
  generalize hD : w.heap.size = D at *
  obtain ⟨mk, hmk⟩ : ∃ mk : LoopState → Option Code → Loop, mk = fun st j => { state := st, pending := j, fn, tmps := a.tmps, params := ps, assign, body, defers := D } := ⟨_, rfl⟩
  -- the world behind 'enterLoop'
  obtain ⟨V, hV⟩ : ∃ V, (w.alloc (.deferred (some []))).alloc (.loop (mk .ready none)) = V := ⟨_, rfl⟩
  have tV : Turn (fun _ => False) w V := by rw [← hV]; exact (Turn.alloc _ _ _).trans (Turn.alloc _ _ _)
  have hVl : V.heap[D + 1]? = some (.loop (mk .ready none)) := by
    rw [← hV, ← hD, show w.heap.size + 1 = (w.alloc (.deferred (some []))).heap.size by simp]
    exact World.alloc_heap_new _ _
  have hVd : V.heap[D]? = some (.deferred (some [])) := by
    rw [← hV, Below.heap_alloc _ _ _ (by simp; omega), ← hD]
    exact World.alloc_heap_new _ _
  have hent : (Instr.enterLoop fn a.tmps ps assign body none).run P w = .ok (D + 1, [{ target := .collected D, args := #[] }]) V := by
    rw [run_enterLoop_outer, ← hV, hmk, hD]
  have notl : ∀ k, Ci k → k ≠ D + 1 ∧ k ≠ D := fun k hk => by have := hCi k hk; omega
  refine ⟨D + 1, _, V, { target := .fn (.func gf) lb, args := #[.func (.yield (D + 1)) #[] #[]] }, V, gf, #[.func (.yield (D + 1)) #[] #[]] ++ lb, V, hent, ?_, ?_, ?_, fun _ => h1, ?_⟩
  · simp only [resolve, hg]
    simp [go_sem]
  · intro f' hf'
    simp [Target.leads] at hf'
    exact hf' ▸ hFg
  · simp [invoke, go_sem, eg]
  · -- the iterator's contract at the caller's invariant and the two blocks of the loop's own
    have keepD : ∀ {A B : World}, Turn Ci A B → ∀ {o o' : Obj}, A.heap[D]? = some o → A.heap[D + 1]? = some o' → B.heap[D]? = some o ∧ B.heap[D + 1]? = some o' := fun t o o' e1 e2 =>
      ⟨(t.block _ (lt_of_block e1) (fun h => (notl _ h).2 rfl)).trans e1, (t.block _ (lt_of_block e2) (fun h => (notl _ h).1 rfl)).trans e2⟩
    refine (hit (D + 1) (fun pre W => I pre W ∧ W.heap[D]? = some (.deferred (some [])) ∧ W.heap[D + 1]? = some (.loop (mk .ready none)))
      (fun pre W => ∃ c, Ix c pre W ∧ W.heap[D]? = some (.deferred (some [])) ∧ W.heap[D + 1]? = some (.loop (mk .done (some c)))) V tV
      (fun s A B hs t => ⟨hI s A B hs.1 (t.wider fun _ h => .inl h), keepD t hs.2.1 hs.2.2⟩)
      (fun s A B ⟨c, hc, h2, h3⟩ t => ⟨c, hIx c s A B hc (t.wider fun _ h => .inl h), keepD t h2 h3⟩) ?round ⟨hI _ _ _ h0 (tV.wider fun _ h => h.elim), hVd, hVl⟩).mono ?after
    case round =>
      rintro pre x W ⟨hi, hd, hl⟩ hsp
      have hlt := lt_of_block hl
      have hy := run_yield (P := P) (args := encs x) hl (by rw [hmk]; exact hps x)
      rw [hmk] at hy
      obtain ⟨U, hU⟩ : ∃ U, W.putObj (D + 1) (.loop { mk .ready none with state := .busy }) = U := ⟨_, rfl⟩
      have tU : Turn (fun k => Ci k ∨ k = D ∨ k = D + 1) W U := by rw [← hU]; exact Turn.put (.inr (.inr rfl)) _
      have hUl : U.heap[D + 1]? = some (.loop { mk .ready none with state := .busy }) := by rw [← hU]; exact World.putObj_heap_same hlt
      have hUd : U.heap[D]? = some (.deferred (some [])) := by rw [← hU]; exact (World.putObj_heap_other (by omega)).trans hd
      have pU : Pin R W U := by rw [← hU]; exact Pin.put (fun h => by have := hR _ h; omega) _
      refine ⟨fn, _, assign, body, hy, roundIn_of_wpIn hfn (hassign _ x W _ ⟨U, by rw [← hU]; exact run_beginRound hl (by rw [hmk]), ?_⟩)⟩
      refine wpIn_mono (hbody _ pre x U (hI _ _ _ hi tU) hsp (by have := tU.size; omega)) ?_
      -- how the round ends, by the jump with which its body was left
      have fin : ∀ (j : Option Code) (Z : World), KeepsOthers U Z → ∃ Y, (Instr.endRound (D + 1) j).run P Z = .ok (.bool j.isNone) Y ∧ Turn (fun k => Ci k ∨ k = D ∨ k = D + 1) Z Y ∧ Pin R Z Y ∧
          Y.heap[D]? = some (.deferred (some [])) ∧ Y.heap[D + 1]? = some (.loop (mk (if j.isNone then .ready else .done) j)) := fun j Z hk => by
        have hzl := hk.same _ _ hUl rfl
        have hzd := hk.same _ _ hUd rfl
        have := run_endRound (P := P) j hzl
        rw [hmk] at this ⊢
        exact ⟨_, this, Turn.put (.inr (.inr rfl)) _, Pin.put (fun h => by have := hR _ h; omega) _, (World.putObj_heap_other (by omega)).trans hzd, World.putObj_heap_same (lt_of_block hzl)⟩
      intro e a3 Z hp
      have out : ∀ c : Code, KeepsOthers U Z → Ix c (pre ++ [x]) Z → ∃ Y, (Instr.endRound (D + 1) (some c)).run P Z = .ok (.bool false) Y ∧ ∃ c', Ix c' (pre ++ [x]) Y ∧ Y.heap[D]? = some (.deferred (some [])) ∧ Y.heap[D + 1]? = some (.loop (mk .done (some c'))) := fun c hk hx => by
        obtain ⟨Y, hr, tY, _, yd, yl⟩ := fin (some c) Z hk
        exact ⟨Y, hr, c, hIx c _ _ _ hx tY, yd, yl⟩
      cases e with
      | normal =>
        obtain ⟨hk, hp1, hi1⟩ := hp
        obtain ⟨Y, hr, tY, pY, yd, yl⟩ := fin none Z hk
        exact ⟨_, Y, hr, .inl ⟨rfl, ⟨hI _ _ _ hi1 tY, yd, yl⟩, (pU.trans hp1).trans pY⟩⟩
      | ret =>
        obtain ⟨Y, hr, h⟩ := out .ret hp.1 hp.2
        exact ⟨_, Y, hr, .inr ⟨rfl, h⟩⟩
      | exit id =>
        obtain ⟨Y, hr, h⟩ := out (.exit id) hp.1 hp.2
        exact ⟨_, Y, hr, .inr ⟨rfl, h⟩⟩
      | goto t =>
        obtain ⟨Y, hr, h⟩ := out (.goto t) hp.1 hp.2
        exact ⟨_, Y, hr, .inr ⟨rfl, h⟩⟩
      | panic ch => exact hp.elim
      | outgrown => exact hp.elim
    case after =>
      rintro e W2 ⟨⟨v, rfl⟩, ⟨xs, hS, hi, hd, hl⟩ | ⟨pre, hSp, c, hi, hd, hl⟩⟩
      all_goals
        have hend := run_endLoop (P := P) hl (by rw [hmk]; simp)
        rw [hmk] at hend
      · exact ⟨none, _, hend, hdone xs _ hS (hI _ _ _ hi (Turn.put (.inr (.inr rfl)) _)) ((World.putObj_heap_other (by omega)).trans hd)⟩
      · exact ⟨some c, _, hend, hstop c pre _ hSp (hIx c _ _ _ hi (Turn.put (.inr (.inr rfl)) _)) ((World.putObj_heap_other (by omega)).trans hd)⟩
end Go.Proofs.YtnkojoajcdhngaaDoor

/- The own law for a range over a function, second form: the iterator makes boxes of its own while it runs; the body's own blocks (M) may grow from round to round. -/
namespace Go.Proofs.YtnkojoajcdhngaaDoor
set_option linter.unusedVariables false
set_option linter.unusedSimpArgs false
set_option maxRecDepth 100000
open Go.RowKit
set_option maxHeartbeats 4000000

/-- At the wide fence the room is no matter. -/
theorem yield_any {m m' : Nat} {P : Program} {l : Nat} {args : Array Value} {W : World} {R : Ending → World → Prop} (h : YieldAt Fence.wide m P l args W R) : YieldAt Fence.wide m' P l args W R := by
  obtain ⟨fn, tmps, assign, body, h1, h2, h3⟩ := h
  exact ⟨fn, tmps, assign, body, h1, h2, fun c cs _ => h3 c cs (room_wide _)⟩
/-- What a round may do: the blocks that are not its own stand; its own are those it had, and new ones. -/
def Keep2 (M M' : Nat → Prop) (W W' : World) : Prop := W.heap.size ≤ W'.heap.size ∧ (∀ k, k < W.heap.size → ¬ M k → W'.heap[k]? = W.heap[k]?) ∧ ∀ k, M' k → M k ∨ W.heap.size ≤ k
/-- The contract of an iterator that reads the blocks R, and makes boxes of its own. -/
def Iter2 {α : Type} (F : Fence) (n : Nat) (P : Program) (gf : Nat) (lb : Array Value) (encs : α → Array Value) (R : Nat → Prop) (S Sp : List α → Prop) (w0 : World) : Prop :=
  ∀ (l : Nat) (J Jx : List α → (Nat → Prop) → World → Prop) (M0 : Nat → Prop) (W : World), Turn (fun _ => False) w0 W →
    (∀ s M A B, J s M A → Turn (fun _ => False) A B → J s M B) → (∀ s M A B, Jx s M A → Turn (fun _ => False) A B → Jx s M B) →
    (∀ k, R k → ¬ M0 k) → (∀ k, M0 k → k < W.heap.size) → (∀ s M A k, J s M A → M k → k < A.heap.size) →
    (∀ pre x M W1, J pre M W1 → Sp (pre ++ [x]) → YieldAt F (n - 1) P l (encs x) W1 fun e W' => (e = .returned (.bool true) ∧ ∃ M', J (pre ++ [x]) M' W' ∧ Keep2 M M' W1 W') ∨ (e = .returned (.bool false) ∧ ∃ M', Jx (pre ++ [x]) M' W')) →
    J [] M0 W →
    CallsIn F n P gf (#[.func (.yield l) #[] #[]] ++ lb) W fun e W' => (∃ v, e = .returned v) ∧ ((∃ xs M, S xs ∧ J xs M W') ∨ (∃ pre M, Sp pre ∧ Jx pre M W'))

/-- The record of a range over a function, or the block of its deferred calls. -/
def isLo : Obj → Bool
  | .loop .. => true
  | .deferred .. => true
  | _ => false
/-- The records of ranges over functions, and their deferred calls' blocks, lie as they lay. -/
structure KeepsLo (W W' : World) : Prop where
  size : W.heap.size ≤ W'.heap.size
  same : ∀ (k : Nat) (o : Obj), W.heap[k]? = some o → isLo o = true → W'.heap[k]? = some o
theorem KeepsLo.of {W W' : World} (h : KeepsOthers W W') : KeepsLo W W' := ⟨h.size, fun k o hk ho => h.same k o hk (by cases o <;> simp_all [isLo, Obj.isCells])⟩
theorem KeepsLo.refl (W : World) : KeepsLo W W := ⟨Nat.le_refl _, fun _ _ h _ => h⟩
theorem KeepsLo.trans {A B C : World} (h : KeepsLo A B) (k : KeepsLo B C) : KeepsLo A C := ⟨Nat.le_trans h.size k.size, fun i o hi ho => k.same i o (h.same i o hi ho) ho⟩
theorem KeepsLo.put {W : World} {r : Nat} {o : Obj} (o' : Obj) (h : W.heap[r]? = some o) (hw : isLo o = false) : KeepsLo W (W.putObj r o') :=
  ⟨by simp, fun k x hk hx => by
    by_cases e : k = r
    · subst e
      rw [h] at hk
      cases hk
      rw [hw] at hx
      cases hx
    · exact (World.putObj_heap_other e).trans hk⟩
/-- How a round's body may be left. -/
def leftBy2 {α : Type} (I : List α → (Nat → Prop) → World → Prop) (Ix : Code → List α → (Nat → Prop) → World → Prop) (xs : List α) (M : Nat → Prop) (W : World) : Exit → Act → World → Prop
  | .normal, _, W' => KeepsLo W W' ∧ ∃ M', I xs M' W' ∧ Keep2 M M' W W'
  | .ret, _, W' => KeepsLo W W' ∧ ∃ M', Ix .ret xs M' W'
  | .exit id, _, W' => KeepsLo W W' ∧ ∃ M', Ix (.exit id) xs M' W'
  | .goto t, _, W' => KeepsLo W W' ∧ ∃ M', Ix (.goto t) xs M' W'
  | .panic _, _, _ => False
  | .outgrown, _, _ => False
/-- What is said of M and of the world looks at M's blocks, and at those below B, alone. -/
def Firm2 {β : Type} (D : Nat) (I : β → (Nat → Prop) → World → Prop) : Prop := ∀ s M A B, I s M A → Turn (fun k => k = D ∨ k = D + 1) A B → (∀ k, M k → k < A.heap.size ∧ k ≠ D ∧ k ≠ D + 1) → I s M B

/-- The statement 'for .. := range g { .. }' over such an iterator. -/
theorem wp_rangeIter2 {F : Fence} {n : Nat} {P : Program} {α : Type} {g : Operand} {ps : Array Tmp} {assign body : Code} {Q : Exit → Act → World → Prop} {a : Act} {w : World}
    (hro : F.round = none) (h1 : 1 ≤ n) {gf : Nat} {lb : Array Value} (hg : a.eval g = .func (.func gf) #[] lb) (hFg : F.fn gf) (eg : ∀ args w, (callFunc gf args).run P w = .ok (.enter gf args) w)
    {encs : α → Array Value} {R : Nat → Prop} {S Sp : List α → Prop} (hit : Iter2 F (n - 1) P gf lb encs R S Sp w)
    (hps : ∀ x, (encs x).size = ps.size) (I : List α → (Nat → Prop) → World → Prop) (Ix : Code → List α → (Nat → Prop) → World → Prop) (M0 : Nat → Prop)
    (hM0 : ∀ k, M0 k → k < w.heap.size) (hR : ∀ k, R k → ¬ M0 k)
    (hlt : ∀ s M A k, I s M A → M k → k < A.heap.size ∧ k ≠ w.heap.size ∧ k ≠ w.heap.size + 1)
    (hI : ∀ s M A B, I s M A → Turn (fun k => k = w.heap.size ∨ k = w.heap.size + 1) A B → I s M B) (hIx : ∀ c s M A B, Ix c s M A → Turn (fun k => k = w.heap.size ∨ k = w.heap.size + 1) A B → Ix c s M B) (h0 : I [] M0 w) (a₁ : α → Act)
    (hassign : ∀ (l : Nat) (x : α) (W : World) (K : Act → World → Prop), K (a₁ x) W →
      assign.wpIn (F.inRound l) (n - 1 - 1) P (Exit.then K (fun _ _ _ => False)) { tmps := (ps.zip (encs x)).foldl (fun t (p, v) => t.setIfInBounds p v) a.tmps, defers := [] } W)
    (hbody : ∀ (l : Nat) (pre : List α) (x : α) (M : Nat → Prop) (W : World), I pre M W → Sp (pre ++ [x]) → w.heap.size + 1 < W.heap.size → body.wpIn (F.inRound l) (n - 1 - 1) P (leftBy2 I Ix (pre ++ [x]) M W) (a₁ x) W)
    (hdone : ∀ (xs : List α) (M : Nat → Prop) (W : World), S xs → I xs M W → W.heap[w.heap.size]? = some (.deferred (some [])) → Q .normal { a with defers := { target := .collected w.heap.size, args := #[] } :: a.defers } W)
    (hstop : ∀ (c : Code) (pre : List α) (M : Nat → Prop) (W : World), Sp pre → Ix c pre M W → W.heap[w.heap.size]? = some (.deferred (some [])) → c.wpIn F n P Q { a with defers := { target := .collected w.heap.size, args := #[] } :: a.defers } W) :
    (Code.rangeFunc g ps assign body).wpIn F n P Q a w := by
  refine wpIn_rangeFunc (fun fn hfn => ?_)
  rw [hro]
  generalize hD : w.heap.size = D at *
  obtain ⟨mk, hmk⟩ : ∃ mk : LoopState → Option Code → Loop, mk = fun st j => { state := st, pending := j, fn, tmps := a.tmps, params := ps, assign, body, defers := D } := ⟨_, rfl⟩
  obtain ⟨V, hV⟩ : ∃ V, (w.alloc (.deferred (some []))).alloc (.loop (mk .ready none)) = V := ⟨_, rfl⟩
  have tV : Turn (fun _ => False) w V := by rw [← hV]; exact (Turn.alloc _ _ _).trans (Turn.alloc _ _ _)
  have hVl : V.heap[D + 1]? = some (.loop (mk .ready none)) := by
    rw [← hV, ← hD, show w.heap.size + 1 = (w.alloc (.deferred (some []))).heap.size by simp]
    exact World.alloc_heap_new _ _
  have hVd : V.heap[D]? = some (.deferred (some [])) := by
    rw [← hV, Below.heap_alloc _ _ _ (by simp; omega), ← hD]
    exact World.alloc_heap_new _ _
  have hent : (Instr.enterLoop fn a.tmps ps assign body none).run P w = .ok (D + 1, [{ target := .collected D, args := #[] }]) V := by
    rw [run_enterLoop_outer, ← hV, hmk, hD]
  refine ⟨D + 1, _, V, { target := .fn (.func gf) lb, args := #[.func (.yield (D + 1)) #[] #[]] }, V, gf, #[.func (.yield (D + 1)) #[] #[]] ++ lb, V, hent, ?_, ?_, ?_, fun _ => h1, ?_⟩
  · simp only [resolve, hg]
    simp [go_sem]
  · intro f' hf'
    simp [Target.leads] at hf'
    exact hf' ▸ hFg
  · simp [invoke, go_sem, eg]
  · have keepD : ∀ {A B : World}, Turn (fun _ => False) A B → ∀ {o o' : Obj}, A.heap[D]? = some o → A.heap[D + 1]? = some o' → B.heap[D]? = some o ∧ B.heap[D + 1]? = some o' := fun t o o' e1 e2 =>
      ⟨(t.block _ (lt_of_block e1) (fun h => h)).trans e1, (t.block _ (lt_of_block e2) (fun h => h)).trans e2⟩
    refine (hit (D + 1) (fun pre M W => I pre M W ∧ W.heap[D]? = some (.deferred (some [])) ∧ W.heap[D + 1]? = some (.loop (mk .ready none)))
      (fun pre M W => ∃ c, Ix c pre M W ∧ W.heap[D]? = some (.deferred (some [])) ∧ W.heap[D + 1]? = some (.loop (mk .done (some c)))) M0 V tV
      (fun s M A B hs t => ⟨hI s M A B hs.1 (t.wider fun _ h => h.elim), keepD t hs.2.1 hs.2.2⟩)
      (fun s M A B ⟨c, hc, h2, h3⟩ t => ⟨c, hIx c s M A B hc (t.wider fun _ h => h.elim), keepD t h2 h3⟩) hR (fun k hk => by have := hM0 k hk; have := tV.size; omega) (fun s M A k h hk => (hlt s M A k h.1 hk).1) ?round ⟨hI _ _ _ _ h0 (tV.wider fun _ h => h.elim), hVd, hVl⟩).mono ?after
    case round =>
      rintro pre x M W ⟨hi, hd, hl⟩ hsp
      have hltl := lt_of_block hl
      have hy := run_yield (P := P) (args := encs x) hl (by rw [hmk]; exact hps x)
      rw [hmk] at hy
      obtain ⟨U, hU⟩ : ∃ U, W.putObj (D + 1) (.loop { mk .ready none with state := .busy }) = U := ⟨_, rfl⟩
      have tU : Turn (fun k => k = D ∨ k = D + 1) W U := by rw [← hU]; exact Turn.put (.inr rfl) _
      have hUl : U.heap[D + 1]? = some (.loop { mk .ready none with state := .busy }) := by rw [← hU]; exact World.putObj_heap_same hltl
      have hUd : U.heap[D]? = some (.deferred (some [])) := by rw [← hU]; exact (World.putObj_heap_other (by omega)).trans hd
      have sU : U.heap.size = W.heap.size := by rw [← hU]; simp
      have oU : ∀ k, k ≠ D + 1 → U.heap[k]? = W.heap[k]? := fun k hk => by rw [← hU]; exact World.putObj_heap_other hk
      refine ⟨fn, _, assign, body, hy, roundIn_of_wpIn hfn (hassign _ x W _ ⟨U, by rw [← hU]; exact run_beginRound hl (by rw [hmk]), ?_⟩)⟩
      refine wpIn_mono (hbody _ pre x M U (hI _ _ _ _ hi tU) hsp (by have := tU.size; omega)) ?_
      have fin : ∀ (j : Option Code) (Z : World), KeepsLo U Z → ∃ Y, (Instr.endRound (D + 1) j).run P Z = .ok (.bool j.isNone) Y ∧ Turn (fun k => k = D ∨ k = D + 1) Z Y ∧ Y.heap.size = Z.heap.size ∧ (∀ k, k ≠ D + 1 → Y.heap[k]? = Z.heap[k]?) ∧
          Y.heap[D]? = some (.deferred (some [])) ∧ Y.heap[D + 1]? = some (.loop (mk (if j.isNone then .ready else .done) j)) := fun j Z hk => by
        have hzl := hk.same _ _ hUl rfl
        have hzd := hk.same _ _ hUd rfl
        have := run_endRound (P := P) j hzl
        rw [hmk] at this ⊢
        exact ⟨_, this, Turn.put (.inr rfl) _, by simp, fun k hk => World.putObj_heap_other hk, (World.putObj_heap_other (by omega)).trans hzd, World.putObj_heap_same (lt_of_block hzl)⟩
      intro e a3 Z hp
      have out : ∀ c : Code, KeepsLo U Z → (∃ M', Ix c (pre ++ [x]) M' Z) → ∃ Y, (Instr.endRound (D + 1) (some c)).run P Z = .ok (.bool false) Y ∧ ∃ M' c', Ix c' (pre ++ [x]) M' Y ∧ Y.heap[D]? = some (.deferred (some [])) ∧ Y.heap[D + 1]? = some (.loop (mk .done (some c'))) := fun c hk ⟨M', hx⟩ => by
        obtain ⟨Y, hr, tY, _, _, yd, yl⟩ := fin (some c) Z hk
        exact ⟨Y, hr, M', c, hIx c _ _ _ _ hx tY, yd, yl⟩
      cases e with
      | normal =>
        obtain ⟨hk, M', hi1, hk1, hk2, hk3⟩ := hp
        obtain ⟨Y, hr, tY, sY, oY, yd, yl⟩ := fin none Z hk
        refine ⟨_, Y, hr, .inl ⟨rfl, M', ⟨hI _ _ _ _ hi1 tY, yd, yl⟩, by omega, fun k hkl hnm => ?_, fun k hm => by rw [← sU]; exact hk3 k hm⟩⟩
        by_cases hkD : k = D + 1
        · subst hkD
          rw [yl, hl]
          rfl
        · rw [oY k hkD, hk2 k (by omega) hnm, oU k hkD]
      | ret =>
        obtain ⟨Y, hr, h⟩ := out .ret hp.1 hp.2
        exact ⟨_, Y, hr, .inr ⟨rfl, h⟩⟩
      | exit id =>
        obtain ⟨Y, hr, h⟩ := out (.exit id) hp.1 hp.2
        exact ⟨_, Y, hr, .inr ⟨rfl, h⟩⟩
      | goto t =>
        obtain ⟨Y, hr, h⟩ := out (.goto t) hp.1 hp.2
        exact ⟨_, Y, hr, .inr ⟨rfl, h⟩⟩
      | panic ch => exact hp.elim
      | outgrown => exact hp.elim
    case after =>
      rintro e W2 ⟨⟨v, rfl⟩, ⟨xs, M, hS, hi, hd, hl⟩ | ⟨pre, M, hSp, c, hi, hd, hl⟩⟩
      all_goals
        have hend := run_endLoop (P := P) hl (by rw [hmk]; simp)
        rw [hmk] at hend
      · exact ⟨none, _, hend, hdone xs M _ hS (hI _ _ _ _ hi (Turn.put (.inr rfl) _)) ((World.putObj_heap_other (by omega)).trans hd)⟩
      · exact ⟨some c, _, hend, hstop c pre M _ hSp (hIx c _ _ _ _ hi (Turn.put (.inr rfl) _)) ((World.putObj_heap_other (by omega)).trans hd)⟩
end Go.Proofs.YtnkojoajcdhngaaDoor
