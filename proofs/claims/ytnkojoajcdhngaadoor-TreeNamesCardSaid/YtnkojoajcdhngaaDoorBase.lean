/- Small words for all walks of this seat: endings, cells behind a contract, and a region that draws its order whose calls make memory of their own. -/
import Derived.WalkKit
import Derived.WalkSpells
import Derived.WalkLawsBesides
import Derived.BigQuiet
import Derived.Deep.QuietTactic
import Derived.StillTail
namespace Go.Proofs.YtnkojoajcdhngaaDoor
set_option linter.unusedVariables false
set_option linter.unusedSimpArgs false
set_option maxRecDepth 100000
open Go.RowKit

theorem ret_bool {a b : Bool} (h : a = b) : Ending.returned (.bool a) = .returned (.bool b) := by rw [h]
theorem ret_int {k : IntKind} {a b : Int} (h : a = b) : Ending.returned (.int k a) = .returned (.int k b) := by rw [h]
theorem bcell {W w1 : World} (hb : Below W.heap.size W w1) : (∀ b o, b < W.heap.size → w1.cell? ⟨b, o, none⟩ = W.cell? ⟨b, o, none⟩) ∧ (∀ b o, b < W.heap.size → w1.frozen? ⟨b, o, none⟩ = W.frozen? ⟨b, o, none⟩) :=
  ⟨fun b o h => hb.cell (p := ⟨b, o, none⟩) h, fun b o h => hb.frozen (p := ⟨b, o, none⟩) h⟩

/-- The worlds that are as W below its own size. -/
def Ext (W : World) := { w' : World // Below W.heap.size W w' }
def ext {W : World} (x : Ext W) : World := x.1
instance (W : World) : Nonempty (Ext W) := ⟨⟨W, Below.refl _ _⟩⟩
theorem ext_cell {W : World} (x : Ext W) (b : Nat) (o : Int) (h : b < W.heap.size) : (ext x).cell? ⟨b, o.toNat, none⟩ = W.cell? ⟨b, o.toNat, none⟩ := x.2.cell (p := ⟨b, o.toNat, none⟩) h
theorem ext_cell' {W : World} (x : Ext W) (b : Nat) (o : Nat) (h : b < W.heap.size) : (ext x).cell? ⟨b, o, none⟩ = W.cell? ⟨b, o, none⟩ := x.2.cell (p := ⟨b, o, none⟩) h
attribute [go_sem] ext_cell'

section
variable {P : Program} {f : FuncId} {args : Array Value} {v : Value} {W : World} {x : Ext W}
theorem in_ext (h : Calls P f args (ext x) fun e w' => e = .returned v ∧ Below (ext x).heap.size (ext x) w') : Calls P f args (ext x) fun e w'' => e = .returned v ∧ ∃ y : Ext W, w'' = ext y :=
  h.mono fun _ _ ⟨he, hb⟩ => ⟨he, ⟨_, x.2.trans (hb.mono x.2.size)⟩, rfl⟩
theorem in_ext_same (h : Calls P f args (ext x) fun e w' => e = .returned v ∧ ext x = w') : Calls P f args (ext x) fun e w'' => e = .returned v ∧ ∃ y : Ext W, w'' = ext y :=
  h.mono fun _ _ ⟨he, hb⟩ => ⟨he, x, hb.symm⟩

/-- A region that draws its order, whose operations read and whose calls make memory of their own alone: one walk, in the order of the text. -/
theorem region_ext {id : Nat} {Q : Exit → Act → World → Prop} {a : Act} {l : List Oper} (hm : P.follows .mixedOrders = true) (hB : Region.lexB .any l.toArray = true)
    (h : wpQuiet P l.toArray (fun w' => ∃ y : Ext W, w' = ext y) (fun a' => ∀ w1, Below W.heap.size W w1 → Q .normal a' w1) l a) : (Code.region id l.toArray true).wp P Q a W := by
  refine wp_region_quiet (C := fun w' => ∃ y : Ext W, w' = ext y) hm hB ⟨⟨_, (Below.refl _ W).drew⟩, rfl⟩ ?_
  have e : (fun a' => ∀ w', (∃ y : Ext W, w' = ext y) → Q .normal a' w') = (fun a' => ∀ w1, Below W.heap.size W w1 → Q .normal a' w1) := by
    funext a'
    apply propext
    constructor
    · intro h w1 hb
      exact h w1 ⟨⟨w1, hb⟩, rfl⟩
    · rintro h _ ⟨y, rfl⟩
      exact h _ y.2
  rw [e]
  simpa using h
end
/-! A region that draws its order, whose first n operations are quiet in a class of worlds, and whose others wait for all of these and for one another. -/
section
variable {P : Program} {ops : Array Oper} {md : Region.Mode} {C : World → Prop}
def headAny (P : Program) (md : Region.Mode) (ops : Array Oper) (C : World → Prop) (n : Nat) (L : Array Bool → Act → Prop) : Nat → Array Bool → Act → Prop
  | 0, ls, a => L ls a
  | f + 1, ls, a => Region.ready md ops ls ≠ [] ∧ ∀ i, i ∈ Region.ready md ops ls → i < n ∧ qOp P ops C i (headAny P md ops C n L f (ls.setIfInBounds i true)) a

theorem headAny_all {n g : Nat} {L : Array Bool → Act → Prop} {Q : Exit → Act → World → Prop} (hL : ∀ ls a w, C w → L ls a → wpAny P md ops Q g ls a w) (f : Nat) :
    ∀ (ls : Array Bool) (a : Act) (w : World), C w → headAny P md ops C n L f ls a → wpAny P md ops Q (g + f) ls a w := by
  induction f with
  | zero => exact fun ls a w hw h => hL ls a w hw h
  | succ f ih =>
    intro ls a w hw h
    refine ⟨fun h0 => absurd h0 h.1, fun i hi => ?_⟩
    exact wpOp_of_qOp hw (fun a' w' hw' hk => ih _ a' w' hw' hk) (h.2 i hi).2

theorem headAny_take {n i : Nat} {oi : Oper} {v : Value} {L : Array Bool → Act → Prop} (hi : ops[i]? = some oi) (hns : ∀ (j : Nat) (o : Oper) cs b, ops[j]? = some o → o.op ≠ .select cs b)
    (hs : Region.sinkB md ops n = true) (hc : Region.chainB md ops n = true) (hn : n < ops.size) (hin : i < n) (hend : ∀ ls a, L ls a → ∀ j, j ∈ Region.ready md ops ls → n ≤ j) (f : Nat) :
    ∀ (ls : Array Bool) (a : Act), HeadInv md ops n ls →
      (∀ j oj, ops[j]? = some oj → j ≠ i → ls.getD j true = false → (∀ e ∈ oj.after, Region.binds md e = true → e.on ≠ i) → oi.apart ops oj = true) →
      i ∈ Region.ready md ops ls → YieldsIn P ops C oi v a → headAny P md ops C n L f (ls.setIfInBounds i true) (a.put oi.dst v) → headAny P md ops C n L (f + 1) ls a := by
  induction f with
  | zero =>
    intro ls a inv hfree hr hy H
    refine ⟨fun h0 => absurd hr (by rw [h0]; exact List.not_mem_nil), fun j hj => ?_⟩
    have hjn : j < n := Nat.lt_of_not_le fun hge => tail_waits hs hc hn inv _ i rfl hin (mem_ready.1 hr).1 j hge hj
    by_cases e : j = i
    · rw [e]
      exact ⟨hin, hy.qOp hi H⟩
    · exact absurd (hend _ _ H j (ready_mono hj e)) (by omega)
  | succ f ih =>
    intro ls a inv hfree hr hy H
    refine ⟨fun h0 => absurd hr (by rw [h0]; exact List.not_mem_nil), fun j hj => ?_⟩
    have hun := (mem_ready.1 hr).1
    have hjn : j < n := Nat.lt_of_not_le fun hge => tail_waits hs hc hn inv _ i rfl hin hun j hge hj
    refine ⟨hjn, ?_⟩
    by_cases e : j = i
    · rw [e]
      exact hy.qOp hi H
    obtain ⟨hju, oj, hoj, hall⟩ := mem_ready.1 hj
    have hno : ∀ x ∈ oj.after, Region.binds md x = true → x.on ≠ i := by
      intro x hx hb hon
      have := hall x hx hb
      rw [hon, getD_both hun] at this
      exact Bool.noConfusion this
    have step := qOp_put hoj (hfree j oj hoj e hju hno) (fun cs b => hns i oi cs b hi) (fun cs b => hns j oj cs b hoj) hy (H.2 j (ready_mono hj e)).2
    refine qOp_mono (fun a' hk => ?_) step
    refine ih _ a' (inv.set hj hjn) (fun k ok hk1 hk2 hk3 hk4 => hfree k ok hk1 hk2 ?_ hk4) (ready_mono hr (Ne.symm e)) hk.1 ?_
    · by_cases hjk : j = k
      · rw [← hjk]
        exact hju
      · rwa [getD_set_ne true hjk] at hk3
    · rw [Array.setIfInBounds_comm _ _ e]
      exact hk.2

theorem headAny_lex {n g : Nat} {Z : Act → Prop} (hsel : Region.noSelect ops = true) (hs : Region.sinkB md ops n = true) (hc : Region.chainB md ops n = true) (hn : n < ops.size) (l : List Oper) :
    ∀ (k : Nat) (ls : Array Bool) (a : Act), (∀ j, j < l.length → l[j]? = ops[k + j]?) → k + l.length = n → HeadInv md ops n ls → Region.lexHead md ops g l.length k ls = true →
      wpQuiet P ops C Z l a → headAny P md ops C n (fun ls' a' => Region.seqB md ops g n ls' = true ∧ Z a') l.length ls a := by
  induction l with
  | nil =>
    intro k ls a _ hk _ hB h
    simp at hk
    subst hk
    exact ⟨by simpa [Region.lexHead] using hB, h⟩
  | cons o l ih =>
    intro k ls a hl hk inv hB h
    have ho : ops[k]? = some o := by simpa using (hl 0 (by simp)).symm
    simp only [List.length_cons, Region.lexHead, Bool.and_eq_true] at hB
    simp only [List.length_cons] at hk
    have hr : k ∈ Region.ready md ops ls := by simpa using hB.1.1
    have hq : qOp P ops C k (wpQuiet P ops C Z l) a := by
      unfold qOp
      rw [ho]
      exact h
    obtain ⟨v, hy, hK⟩ := yieldsIn_of_qOp ho hq
    refine headAny_take ho (Region.noSelect_spec hsel) hs hc hn (by omega) (fun ls' a' hL => seqB_ready hL.1) l.length ls a inv (Region.free_spec ho hB.1.2) hr hy ?_
    refine ih (k + 1) _ _ (fun j hj => ?_) (by omega) (inv.set hr (by omega)) hB.2 hK
    have := hl (j + 1) (by simpa using hj)
    rw [List.getElem?_cons_succ] at this
    rw [this, show k + 1 + j = k + (j + 1) by omega]

/-- The first n operations quiet over 'Below', the others (a store, an append ..) behind them in the order of the text. -/
theorem region_ext_tail {W : World} {id : Nat} {Q : Exit → Act → World → Prop} {a : Act} {l : List Oper} (n : Nat) (hm : P.follows .mixedOrders = true) (hB : Region.lexTailB .any l.toArray n = true)
    (h : wpQuiet P l.toArray (fun w' => ∃ y : Ext W, w' = ext y) (fun a' => ∀ w1, Below W.heap.size W w1 → wpList P l.toArray Q (l.drop n) a' w1) (l.take n) a) : (Code.region id l.toArray true).wp P Q a W := by
  simp only [Region.lexTailB, Bool.and_eq_true, decide_eq_true_eq] at hB
  obtain ⟨⟨⟨⟨hsel, hn⟩, hs⟩, hc⟩, hlex⟩ := hB
  have hn' : n < l.length := by simpa using hn
  have htl : (l.take n).length = n := by rw [List.length_take]; omega
  have hdl : (l.drop n).length = l.toArray.size - n := by simp
  have inv0 : HeadInv .any l.toArray n (Array.replicate l.toArray.size false) :=
    ⟨by simp, fun j oj _ hl => (by rw [getD_replicate_false] at hl; cases hl), fun t _ ht => getD_in (by simpa using ht) (getD_replicate_false _ _)⟩
  have H := headAny_lex (md := .any) (g := l.toArray.size - n) hsel hs hc hn (l.take n) 0 _ a (fun j hj => by
    have hj' : j < n := by rwa [htl] at hj
    simp [hj']) (by simpa using htl) inv0 (by rw [htl]; exact hlex) h
  refine wp_region_any hm ?_
  have R := headAny_all (Q := Q) (g := l.toArray.size - n) (fun ls a' w' hw' hL => by
    obtain ⟨y, rfl⟩ := hw'
    have := wpAny_of_seq (md := .any) (Q' := Q) (l.drop n) n ls a' (ext y) (fun j => by simp [List.getElem?_drop]) (by rw [hdl]; exact hL.1) (hL.2 _ y.2)
    rwa [hdl] at this) _ _ _ { W with drawn := W.drawn + 1 } ⟨⟨_, (Below.refl _ W).drew⟩, rfl⟩ H
  rwa [htl, show l.toArray.size - n + n = l.toArray.size by omega] at R
theorem region_ext_last {W : World} {id : Nat} {Q : Exit → Act → World → Prop} {a : Act} {l : List Oper} (m : Nat) (hm : P.follows .mixedOrders = true) (hB : Region.lexTailB .any l.toArray (l.length - m) = true)
    (h : wpQuiet P l.toArray (fun w' => ∃ y : Ext W, w' = ext y) (fun a' => ∀ w1, Below W.heap.size W w1 → wpList P l.toArray Q (l.drop (l.length - m)) a' w1) (l.take (l.length - m)) a) : (Code.region id l.toArray true).wp P Q a W := region_ext_tail _ hm hB h
end
end Go.Proofs.YtnkojoajcdhngaaDoor
