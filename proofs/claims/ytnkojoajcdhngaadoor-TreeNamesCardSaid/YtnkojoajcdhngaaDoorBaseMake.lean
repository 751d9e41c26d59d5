/- A region that draws its order: quiet operations, and makers (operations or calls that make memory and whose value is any that a law tells), which no quiet one waits for; behind all of them a chain. In stages. -/
import Derived.Test.YtnkojoajcdhngaaDoorBase
namespace Go.Proofs.YtnkojoajcdhngaaDoor
set_option linter.unusedVariables false
set_option linter.unusedSimpArgs false
set_option maxRecDepth 100000
open Go.RowKit

section
variable {P : Program} {ops : Array Oper} {W : World}
def CW (V : World) : World → Prop := fun w' => ∃ y : Ext V, w' = ext y
theorem CW.of {V w : World} (h : Below V.heap.size V w) : CW V w := ⟨⟨w, h⟩, rfl⟩
theorem CW.below {V w : World} (h : CW V w) : Below V.heap.size V w := by
  obtain ⟨y, rfl⟩ := h
  exact y.2
def QU (P : Program) (ops : Array Oper) (W : World) (o : Oper) (v : Value) (a : Act) : Prop := ∀ V, Below W.heap.size W V → YieldsIn P ops (CW V) o v a

theorem put_size (a : Act) (d : Option Tmp) (v : Value) : (a.put d v).tmps.size = a.tmps.size := by
  cases d <;> simp [Act.put]
theorem put_defs (a : Act) (d : Option Tmp) (v : Value) : (a.put d v).defers = a.defers := by
  cases d <;> rfl
theorem put_ne (a : Act) {d : Option Tmp} {s : Tmp} (v : Value) (h : d ≠ some s) : (a.put d v).tmps[s]? = a.tmps[s]? := by
  cases d with
  | none => rfl
  | some e =>
    simp only [Act.put]
    rw [Array.getElem?_setIfInBounds_ne]
    intro he
    exact h (by rw [he])

theorem kept_slot {C : World → Prop} {A : Act} {d : Tmp} (s : List Oper) : ∀ (a : Act), (∀ o ∈ s, o.dst ≠ some d) → wpQuiet P ops C (fun a' => a' = A) s a → A.tmps[d]? = a.tmps[d]? := by
  induction s with
  | nil =>
    intro a _ h
    have h' : a = A := h
    rw [h']
  | cons o s ih =>
    intro a hd h
    have key : ∀ v, (a.put o.dst v).tmps[d]? = a.tmps[d]? := fun v => put_ne a v (hd o (by simp))
    unfold wpQuiet at h
    split at h
    · obtain ⟨v, _, h2⟩ := h
      rw [ih _ (fun x hx => hd x (by simp [hx])) h2, key]
    · rw [ih _ (fun x hx => hd x (by simp [hx])) h, key]

theorem one_value {A : Act} {o : Oper} {s : List Oper} {a : Act} {d : Tmp} (hd : o.dst = some d) (hlt : d < a.tmps.size) (hs : ∀ x ∈ s, x.dst ≠ some d)
    (h : ∀ V, Below W.heap.size W V → wpQuiet P ops (CW V) (fun a' => a' = A) (o :: s) a) : ∃ v, QU P ops W o v a ∧ ∀ V, Below W.heap.size W V → wpQuiet P ops (CW V) (fun a' => a' = A) s (a.put o.dst v) := by
  by_cases hw : Region.wanted o (yielded ops a.tmps) = true
  · have hv : ∀ V, Below W.heap.size W V → (∀ w, CW V w → o.quietAt P a (CW V) w (A.tmps.getD d undef)) ∧ wpQuiet P ops (CW V) (fun a' => a' = A) s (a.put o.dst (A.tmps.getD d undef)) := by
      intro V hV
      have h1 := h V hV
      unfold wpQuiet at h1
      rw [if_pos hw] at h1
      obtain ⟨v, h2, h3⟩ := h1
      have h4 := kept_slot s _ hs h3
      have h5 : v = A.tmps.getD d undef := by
        rw [Array.getD_eq_getD_getElem?, h4, hd]
        simp [Act.put, hlt]
      rw [← h5]
      exact ⟨h2, h3⟩
    exact ⟨_, fun V hV => .inl ⟨hw, (hv V hV).1⟩, fun V hV => (hv V hV).2⟩
  · refine ⟨undef, fun V hV => .inr ⟨by simpa using hw, rfl⟩, fun V hV => ?_⟩
    have h1 := h V hV
    unfold wpQuiet at h1
    rwa [if_neg hw] at h1

/-! Frames that agree but for some slots. -/
structure Agree (ds : Tmp → Prop) (a a' : Act) : Prop where
  defers : a.defers = a'.defers
  size : a.tmps.size = a'.tmps.size
  at_ : ∀ s, ¬ ds s → a.tmps[s]? = a'.tmps[s]?
theorem Agree.refl (ds : Tmp → Prop) (a : Act) : Agree ds a a := ⟨rfl, rfl, fun _ _ => rfl⟩
theorem Agree.put {ds : Tmp → Prop} {a a' : Act} (h : Agree ds a a') (d : Option Tmp) (v : Value) : Agree ds (a.put d v) (a'.put d v) := by
  refine ⟨by rw [put_defs, put_defs]; exact h.defers, by rw [put_size, put_size]; exact h.size, fun s hs => ?_⟩
  cases d with
  | none => exact h.at_ s hs
  | some e =>
    simp only [Act.put, Array.getElem?_setIfInBounds, h.size, h.at_ s hs]
theorem Agree.own {ds : Tmp → Prop} {a a' : Act} (h : Agree ds a a') {d : Tmp} (hd : ds d) (v : Value) : Agree ds (a.put (some d) v) a' := by
  refine ⟨h.defers, by rw [put_size]; exact h.size, fun s hs => ?_⟩
  rw [put_ne]
  · exact h.at_ s hs
  · intro e
    injection e with e
    subst e
    exact hs hd
theorem Agree.more {ds ds' : Tmp → Prop} {a a' : Act} (h : Agree ds a a') (hd : ∀ s, ds s → ds' s) : Agree ds' a a' := ⟨h.defers, h.size, fun s hs => h.at_ s (fun h' => hs (hd s h'))⟩
theorem Agree.eval {ds : Tmp → Prop} {a a' : Act} (h : Agree ds a a') {x : Operand} (hx : ∀ t, x = .tmp t → ¬ ds t) : a.eval x = a'.eval x := by
  cases x with
  | tmp t =>
    have := h.at_ t (hx t rfl)
    simp [Act.eval, Array.getD_eq_getD_getElem?, this]
  | _ => rfl
theorem Agree.exec {ds : Tmp → Prop} {a a' : Act} (h : Agree ds a a') (o : Oper) (hs : ∀ cs b, o.op ≠ .select cs b) (hl : ∀ d ∈ o.looksAt ops, ¬ ds d) : execOp a.eval o = execOp a'.eval o :=
  execOp_congr o hs fun x hx => h.eval fun t ht => hl t (by
    subst ht
    exact List.mem_append_left _ (List.mem_filterMap.2 ⟨.tmp t, by simpa using hx, rfl⟩))
theorem Agree.wanted {ds : Tmp → Prop} {a a' : Act} (h : Agree ds a a') (o : Oper) (hl : ∀ d ∈ o.looksAt ops, ¬ ds d) : Region.wanted o (yielded ops a.tmps) = Region.wanted o (yielded ops a'.tmps) := by
  unfold Region.wanted
  cases hg : o.guard with
  | none => rfl
  | some gw =>
    obtain ⟨g, want⟩ := gw
    have hy : yielded ops a.tmps g = yielded ops a'.tmps g := by
      unfold yielded
      cases ht : (ops[g]?).bind (·.dst) with
      | none => rfl
      | some t =>
        have := h.at_ t (hl t (by simp [Oper.looksAt, hg, ht]))
        simp [this]
    simp only [hy]

/-! Makers. -/
def makeUpon (P : Program) (V : World) (blk : Value → Option Nat) (Good : Value → World → Prop) : Result Next → Prop
  | .ok (.value v) w' => Good v w' ∧ Below V.heap.size V w' ∧ ∀ b, blk v = some b → V.heap.size ≤ b
  | .ok (.enter f args) w' => Calls P f args w' (fun e w'' => ∃ v, e = .returned v ∧ Good v w'' ∧ Below V.heap.size V w'' ∧ ∀ b, blk v = some b → V.heap.size ≤ b)
  | _ => False
def Makes (P : Program) (W : World) (blk : Value → Option Nat) (Good : Value → World → Prop) (o : Oper) (a : Act) : Prop := ∀ V, Below W.heap.size W V → makeUpon P V blk Good ((execOp a.eval o).run P V)
theorem Makes.of_same {blk : Value → Option Nat} {Good : Value → World → Prop} {o : Oper} {a a' : Act} (h : Makes P W blk Good o a) (he : execOp a'.eval o = execOp a.eval o) : Makes P W blk Good o a' := fun V hV => by
  rw [he]
  exact h V hV
theorem Makes.wp {blk : Value → Option Nat} {Good : Value → World → Prop} {o : Oper} {a : Act} {V : World} {K : Act → World → Prop} {Q : Exit → Act → World → Prop} (h : Makes P W blk Good o a) (hV : Below W.heap.size W V)
    (hK : ∀ v w', Good v w' → Below V.heap.size V w' → (∀ b, blk v = some b → V.heap.size ≤ b) → K (a.put o.dst v) w') : o.wp P a V K Q := by
  have h1 := h V hV
  unfold Oper.wp
  generalize (execOp a.eval o).run P V = r at *
  cases r with
  | ok n w' =>
    cases n <;> simp only [makeUpon] at h1 <;> simp only [Oper.upon]
    case value v => exact hK v w' h1.1 h1.2.1 h1.2.2
    case enter f args =>
      refine h1.mono fun e w'' he => ?_
      obtain ⟨v, rfl, hg, hb, hn⟩ := he
      exact hK v w'' hg hb hn
  | halt x w' => simp only [makeUpon] at h1

variable {md : Region.Mode}
/-- Whatever order, the makers left out. -/
def HM (P : Program) (md : Region.Mode) (ops : Array Oper) (W : World) (n : Nat) (isM : Nat → Bool) (L : Array Bool → Act → Prop) : Nat → Array Bool → Act → Prop
  | 0, ls, a => L ls a
  | f + 1, ls, a => (∃ i, i ∈ Region.ready md ops ls ∧ isM i = false ∧ i < n) ∧ ∀ i oi, i ∈ Region.ready md ops ls → isM i = false → i < n → ops[i]? = some oi → ∃ v, QU P ops W oi v a ∧ HM P md ops W n isM L f (ls.setIfInBounds i true) (a.put oi.dst v)

theorem QU.moved {oi oj : Oper} {u v : Value} {a : Act} (hsj : ∀ cs b, oj.op ≠ .select cs b) (hap : oi.apart ops oj = true) (h : QU P ops W oj u (a.put oi.dst v)) : QU P ops W oj u a := fun V hV => by
  obtain ⟨h1, _, _⟩ := Oper.apart_spec hap
  exact (h V hV).of_same (execOp_put oj hsj a oi.dst v h1).symm (wanted_put oj a oi.dst v h1).symm
theorem QU.held {oi oj : Oper} {u v : Value} {a : Act} (hsi : ∀ cs b, oi.op ≠ .select cs b) (hap : oi.apart ops oj = true) (h : QU P ops W oi u a) : QU P ops W oi u (a.put oj.dst v) := fun V hV => by
  obtain ⟨_, _, h3⟩ := Oper.apart_spec hap
  exact (h V hV).of_same (execOp_put oi hsi a oj.dst v h3) (wanted_put oi a oj.dst v h3)

theorem HM_take {n i : Nat} {isM : Nat → Bool} {oi : Oper} {v : Value} {L : Array Bool → Act → Prop} (hi : ops[i]? = some oi) (hns : ∀ (j : Nat) (o : Oper) cs b, ops[j]? = some o → o.op ≠ .select cs b)
    (hin : i < n) (him : isM i = false) (hend : ∀ ls a, L ls a → ∀ j, j < n → isM j = false → ls.getD j true = true) (f : Nat) :
    ∀ (ls : Array Bool) (a : Act),
      (∀ j oj, ops[j]? = some oj → j ≠ i → ls.getD j true = false → (∀ e ∈ oj.after, Region.binds md e = true → e.on ≠ i) → oi.apart ops oj = true) →
      i ∈ Region.ready md ops ls → QU P ops W oi v a → HM P md ops W n isM L f (ls.setIfInBounds i true) (a.put oi.dst v) → HM P md ops W n isM L (f + 1) ls a := by
  induction f with
  | zero =>
    intro ls a hfree hr hy H
    refine ⟨⟨i, hr, him, hin⟩, fun j oj hj hjm hjn hoj => ?_⟩
    by_cases e : j = i
    · subst e
      have : oj = oi := Option.some.inj (hoj.symm.trans hi)
      subst this
      exact ⟨v, hy, H⟩
    · have h1 := hend _ _ H j hjn hjm
      rw [getD_set_ne true (Ne.symm e), (mem_ready.1 hj).1] at h1
      exact Bool.noConfusion h1
  | succ f ih =>
    intro ls a hfree hr hy H
    refine ⟨⟨i, hr, him, hin⟩, fun j oj hj hjm hjn hoj => ?_⟩
    by_cases e : j = i
    · subst e
      have : oj = oi := Option.some.inj (hoj.symm.trans hi)
      subst this
      exact ⟨v, hy, H⟩
    obtain ⟨hju, oj', hoj', hall⟩ := mem_ready.1 hj
    have : oj' = oj := Option.some.inj (hoj'.symm.trans hoj)
    subst this
    have hun := (mem_ready.1 hr).1
    have hno : ∀ x ∈ oj'.after, Region.binds md x = true → x.on ≠ i := by
      intro x hx hb hon
      have := hall x hx hb
      rw [hon, getD_both hun] at this
      exact Bool.noConfusion this
    have hap := hfree j oj' hoj e hju hno
    obtain ⟨u, hu, hU⟩ := H.2 j oj' (ready_mono hj e) hjm hjn hoj
    refine ⟨u, hu.moved (fun cs b => hns j oj' cs b hoj) hap, ?_⟩
    refine ih _ _ (fun m om h1 h2 h3 h4 => hfree m om h1 h2 ?_ h4) (ready_mono hr (Ne.symm e)) (hy.held (fun cs b => hns i oi cs b hi) hap) ?_
    · by_cases hjm' : j = m
      · rw [← hjm']
        exact hju
      · rwa [getD_set_ne true hjm'] at h3
    · rw [Array.setIfInBounds_comm _ _ e]
      have := (Oper.apart_spec hap).2.1
      rwa [Act.put_comm a v u this] at hU

def lexM (md : Region.Mode) (ops : Array Oper) (isM : Nat → Bool) : Nat → Nat → Array Bool → Bool
  | 0, _, _ => true
  | f + 1, i, ls => if isM i then lexM md ops isM f (i + 1) ls else (Region.ready md ops ls).contains i && Region.free md ops ls i && lexM md ops isM f (i + 1) (ls.setIfInBounds i true)
def lsM (isM : Nat → Bool) : Nat → Nat → Array Bool → Array Bool
  | 0, _, ls => ls
  | f + 1, i, ls => if isM i then lsM isM f (i + 1) ls else lsM isM f (i + 1) (ls.setIfInBounds i true)
/-- The quiet ones of a list of operations that begins at number i. -/
def quietOf (isM : Nat → Bool) : Nat → List Oper → List Oper
  | _, [] => []
  | i, o :: l => if isM i then quietOf isM (i + 1) l else o :: quietOf isM (i + 1) l
def dstsUnder (N : Nat) (s : List Oper) : Bool := s.all fun o => match o.dst with | some d => decide (d < N) | none => false
def dstsDiffer : List Oper → Bool
  | [] => true
  | o :: s => s.all (fun x => !(x.dst == o.dst)) && dstsDiffer s

theorem HM_lex {n : Nat} {isM : Nat → Bool} {A : Act} {L : Array Bool → Act → Prop} (hsel : Region.noSelect ops = true) (hend : ∀ ls a, L ls a → ∀ j, j < n → isM j = false → ls.getD j true = true) (s : List Oper) :
    ∀ (i : Nat) (ls : Array Bool) (a : Act), (∀ j, j < s.length → s[j]? = ops[i + j]?) → i + s.length = n → lexM md ops isM s.length i ls = true →
      dstsUnder a.tmps.size (quietOf isM i s) = true → dstsDiffer (quietOf isM i s) = true → (∀ V, Below W.heap.size W V → wpQuiet P ops (CW V) (fun a' => a' = A) (quietOf isM i s) a) →
      L (lsM isM s.length i ls) A → HM P md ops W n isM L (quietOf isM i s).length ls a := by
  induction s with
  | nil =>
    intro i ls a _ _ _ _ _ h hL
    have : a = A := h W (Below.refl _ _)
    rw [this]
    exact hL
  | cons o s ih =>
    intro i ls a hl hin hB hd1 hd2 h hL
    have ho : ops[i]? = some o := by simpa using (hl 0 (by simp)).symm
    have hl' : ∀ j, j < s.length → s[j]? = ops[i + 1 + j]? := by
      intro j hj
      have := hl (j + 1) (by simpa using hj)
      rw [List.getElem?_cons_succ] at this
      rw [this, show i + 1 + j = i + (j + 1) by omega]
    have hin' : i + 1 + s.length = n := by simp at hin; omega
    by_cases hm : isM i = true
    · simp only [quietOf, hm, if_true] at hd1 hd2 h ⊢
      simp only [List.length_cons, lexM, lsM, hm, if_true] at hB hL
      exact ih (i + 1) ls a hl' hin' hB hd1 hd2 h hL
    · simp only [quietOf, hm, if_false, Bool.false_eq_true] at hd1 hd2 h ⊢
      simp only [List.length_cons, lexM, lsM, hm, if_false, Bool.and_eq_true, Bool.false_eq_true] at hB hL
      have him : isM i = false := by simpa using hm
      simp only [dstsUnder, List.all_cons, Bool.and_eq_true] at hd1
      simp only [dstsDiffer, Bool.and_eq_true, List.all_eq_true, Bool.not_eq_true', beq_eq_false_iff_ne] at hd2
      have hr : i ∈ Region.ready md ops ls := by simpa using hB.1.1
      obtain ⟨d, hd⟩ : ∃ d, o.dst = some d := by
        cases hdd : o.dst with
        | none => simp [hdd] at hd1
        | some d => exact ⟨d, rfl⟩
      have hdlt : d < a.tmps.size := by simpa [hd] using hd1.1
      obtain ⟨v, hy, hrest⟩ := one_value hd hdlt (fun x hx => by rw [← hd]; exact hd2.1 x hx) h
      simp only [List.length_cons]
      refine HM_take ho (Region.noSelect_spec hsel) (by omega) him hend _ ls a (Region.free_spec ho hB.1.2) hr hy ?_
      exact ih (i + 1) _ _ hl' hin' hB.2 (by rw [put_size]; exact hd1.2) hd2.2 hrest hL

theorem getD_of_true {x : Array Bool} {j : Nat} (h : x.getD j true = true) (hj : j < x.size) : x.getD j false = true := by
  simpa [hj] using h
/-- A maker that may come up now makes what it makes at the end. -/
theorem HM_makes {n : Nat} {isM : Nat → Bool} {om : Oper} {blk : Value → Option Nat} {Good : Value → World → Prop} {L : Array Bool → Act → Prop} (hns : ∀ cs b, om.op ≠ .select cs b)
    (hap : ∀ i oi, ops[i]? = some oi → i < n → isM i = false → (∀ e ∈ om.after, Region.binds md e = true → e.on ≠ i) → oi.apart ops om = true) (hL : ∀ ls a, L ls a → Makes P W blk Good om a) (f : Nat) :
    ∀ (ls : Array Bool) (a : Act), (∀ e ∈ om.after, Region.binds md e = true → ls.getD e.on false = true) → HM P md ops W n isM L f ls a → Makes P W blk Good om a := by
  induction f with
  | zero => exact fun ls a _ h => hL ls a h
  | succ f ih =>
    intro ls a hdep h
    obtain ⟨⟨i, hr, him, hin⟩, hall⟩ := h
    obtain ⟨hun, oi, hoi, _⟩ := mem_ready.1 hr
    obtain ⟨v, _, hU⟩ := hall i oi hr him hin hoi
    have h1 := ih _ _ (fun e he hb => getD_set_true (hdep e he hb)) hU
    have hno : ∀ e ∈ om.after, Region.binds md e = true → e.on ≠ i := by
      intro e he hb hon
      have := hdep e he hb
      rw [hon, getD_both hun] at this
      exact Bool.noConfusion this
    exact h1.of_same (execOp_put om hns a oi.dst v (Oper.apart_spec (hap i oi hoi hin him hno)).1).symm

theorem tail_waits2 {n : Nat} {ls : Array Bool} (hsink : ∀ i, i < n → ls.getD i true = false → ∃ j, i < j ∧ j ≤ n ∧ Region.waitsFor md ops j i = true) (hlater : ∀ t, n < t → t < ops.size → ∃ s, n ≤ s ∧ s < t ∧ Region.waitsFor md ops t s = true) (hn : n < ops.size) (inv : HeadInv md ops n ls) :
    ∀ (d i : Nat), n - i = d → i < n → ls.getD i true = false → ∀ t, n ≤ t → t ∉ Region.ready md ops ls := by
  intro d
  induction d using Nat.strongRecOn with
  | _ d ih =>
    intro i hd hi hun t ht hr
    obtain ⟨_, ot, hot, hall⟩ := mem_ready.1 hr
    have htlt : t < ops.size := (Array.getElem?_eq_some_iff.1 hot).1
    by_cases htn : t = n
    · subst htn
      obtain ⟨j, hj1, hj2, hj3⟩ := hsink i hi hun
      obtain ⟨oj, hoj, e, he, hb, hon⟩ := Region.waitsFor_spec hj3
      by_cases hjt : j = t
      · subst hjt
        have : oj = ot := Option.some.inj (hoj.symm.trans hot)
        subst this
        have h2 := hall e he hb
        rw [hon, getD_both hun] at h2
        cases h2
      · cases hl : ls.getD j false with
        | true =>
          have h2 := inv.closed j oj hoj hl e he hb
          rw [hon, getD_both hun] at h2
          cases h2
        | false =>
          have hjs : j < ls.size := by rw [inv.size]; omega
          exact ih (t - j) (by omega) j rfl (by omega) (getD_in hjs hl) t (Nat.le_refl _) hr
    · obtain ⟨s, hs1, hs2, hs3⟩ := hlater t (by omega) htlt
      obtain ⟨o', ho', e, he, hb, hon⟩ := Region.waitsFor_spec hs3
      have : o' = ot := Option.some.inj (ho'.symm.trans hot)
      subst this
      have h2 := hall e he hb
      rw [hon, getD_both (inv.tail s hs1 (by omega))] at h2
      cases h2

theorem count_less {dn dn' : Nat → Bool} {m : Nat} (ks : List Nat) (hnd : ks.Nodup) (hm : m ∈ ks) (h0 : dn m = false) (h1 : dn' m = true) (hne : ∀ j, j ≠ m → dn' j = dn j) : (ks.filter (fun j => !dn' j)).length + 1 = (ks.filter (fun j => !dn j)).length := by
  induction ks with
  | nil => cases hm
  | cons k ks ih =>
    rw [List.nodup_cons] at hnd
    by_cases hk : k = m
    · subst hk
      have same : ks.filter (fun j => !dn' j) = ks.filter (fun j => !dn j) := List.filter_congr fun j hj => by
        rw [hne j (fun e => hnd.1 (e ▸ hj))]
      simp [List.filter_cons, h0, h1, same]
    · have hm' : m ∈ ks := by
        rcases List.mem_cons.1 hm with h | h
        · exact absurd h.symm hk
        · exact h
      have := ih hnd.2 hm'
      simp only [List.filter_cons, hne k hk]
      cases dn k <;> simp <;> omega

/-- What is asked of a region's makers. -/
structure MakersOk (md : Region.Mode) (ops : Array Oper) (n : Nat) (ks : List Nat) (N : Nat) : Prop where
  nodup : ks.Nodup
  maker : ∀ m ∈ ks, m < n ∧ ∃ om d, ops[m]? = some om ∧ om.dst = some d ∧ d < N ∧ om.guard = none ∧ ∀ e ∈ om.after, Region.binds md e = true → e.on ∉ ks ∧ e.on < n
  quiet : ∀ i oi, ops[i]? = some oi → i < n → i ∉ ks → ∀ e ∈ oi.after, Region.binds md e = true → e.on ∉ ks
  apart : ∀ m ∈ ks, ∀ om, ops[m]? = some om → ∀ i oi, ops[i]? = some oi → i < n → i ∉ ks → (∀ e ∈ om.after, Region.binds md e = true → e.on ≠ i) → oi.apart ops om = true
  looks : ∀ m ∈ ks, ∀ om d, ops[m]? = some om → om.dst = some d → ∀ i oi, ops[i]? = some oi → i < n → i ≠ m → d ∉ oi.looksAt ops ∧ oi.dst ≠ some d

def slotsOf (ops : Array Oper) (q : Nat → Prop) : Tmp → Prop := fun s => ∃ m, q m ∧ ∃ om, ops[m]? = some om ∧ om.dst = some s

/-- The makers' new blocks are not the same. -/
def Distinct (ops : Array Oper) (q : Nat → Prop) (blk : Value → Option Nat) (a : Act) : Prop := ∀ m m', q m → q m' → m ≠ m' → ∀ om om' d d' v v', ops[m]? = some om → ops[m']? = some om' → om.dst = some d → om'.dst = some d' → a.tmps[d]? = some v → a.tmps[d']? = some v' → ∀ b, blk v = some b → blk v' ≠ some b
theorem HM_any {n g N : Nat} {ks : List Nat} {blk : Value → Option Nat} {Goods : Nat → Value → World → Prop} {L : Array Bool → Act → Prop} {Q : Exit → Act → World → Prop} {ls0 : Array Bool}
    (hns : ∀ (j : Nat) (o : Oper) cs b, ops[j]? = some o → o.op ≠ .select cs b)
    (hsink : ∀ i, i < n → ls0.getD i true = false → ∃ j, i < j ∧ j ≤ n ∧ Region.waitsFor md ops j i = true) (hlater : ∀ t, n < t → t < ops.size → ∃ s, n ≤ s ∧ s < t ∧ Region.waitsFor md ops t s = true) (hn : n < ops.size)
    (ok : MakersOk md ops n ks N) (hgm : ∀ m v w w', Goods m v w → Below w.heap.size w w' → Goods m v w') (hgb : ∀ m v w b, Goods m v w → blk v = some b → b < w.heap.size) (hmk : ∀ ls a, L ls a → ∀ m ∈ ks, ∀ om, ops[m]? = some om → Makes P W blk (Goods m) om a)
    (hend : ∀ ls a, L ls a → ∀ j, j < n → j ∉ ks → ls.getD j true = true)
    (htail : ∀ ls lq a aq w, L lq aq → ls.size = ops.size → (∀ j, j < ops.size → ls.getD j false = (lq.getD j false || ks.contains j)) → Agree (slotsOf ops (· ∈ ks)) a aq →
      (∀ m ∈ ks, ∀ om d, ops[m]? = some om → om.dst = some d → ∃ v, a.tmps[d]? = some v ∧ Goods m v w) → Distinct ops (· ∈ ks) blk a → Below W.heap.size W w → wpAny P md ops Q g ls a w) :
    ∀ (T f : Nat) (dn : Nat → Bool) (ls lq : Array Bool) (a aq : Act) (w : World), f + (ks.filter (fun j => !dn j)).length = T → HeadInv md ops n ls → (∀ i, ls.getD i true = false → ls0.getD i true = false) → lq.size = ops.size →
      (∀ j, j < ops.size → ls.getD j false = (lq.getD j false || dn j)) → (∀ m, dn m = true → m ∈ ks) → (∀ m ∈ ks, lq.getD m false = false) → a.tmps.size = N → Agree (slotsOf ops (fun m => dn m = true)) a aq →
      (∀ m, dn m = true → ∀ om d, ops[m]? = some om → om.dst = some d → ∃ v, a.tmps[d]? = some v ∧ Goods m v w) → Distinct ops (fun m => dn m = true) blk a → Below W.heap.size W w → HM P md ops W n (fun i => ks.contains i) L f lq aq → wpAny P md ops Q (g + T) ls a w := by
  intro T
  induction T with
  | zero =>
    intro f dn ls lq a aq w hT inv hsub hlq hboth hdn hlk hN agr good dist hW h
    have hf : f = 0 := by omega
    subst hf
    have hall : ∀ m ∈ ks, dn m = true := by
      intro m hm
      cases hd : dn m with
      | true => rfl
      | false =>
        have : m ∈ ks.filter (fun j => !dn j) := List.mem_filter.2 ⟨hm, by simp [hd]⟩
        have := List.length_pos_of_mem this
        omega
    refine htail ls lq a aq w h inv.size (fun j hj => ?_) (agr.more fun s ⟨m, hm, x⟩ => ⟨m, hdn m hm, x⟩) (fun m hm => good m (hall m hm)) (fun m m' hm hm' => dist m m' (hall m hm) (hall m' hm')) hW
    rw [hboth j hj]
    congr 1
    cases hd : dn j with
    | true => simpa using (hdn j hd)
    | false =>
      symm
      simp only [List.contains_eq_mem, decide_eq_false_iff_not]
      intro hj'
      rw [hall j hj'] at hd
      cases hd
  | succ T ih =>
    intro f dn ls lq a aq w hT inv hsub hlq hboth hdn hlk hN agr good dist hW h
    -- something of the head has not come up yet, and may
    have hsink' : ∀ i, i < n → ls.getD i true = false → ∃ j, i < j ∧ j ≤ n ∧ Region.waitsFor md ops j i = true := fun i hi hu => hsink i hi (hsub i hu)
    have hlt : ∀ i oi, ops[i]? = some oi → i < ops.size := fun i oi ho => (Array.getElem?_eq_some_iff.1 ho).1
    have up : ∀ i, i ∈ Region.ready md ops lq → i ∉ ks → i ∈ Region.ready md ops ls := by
      intro i hi hik
      obtain ⟨hu, oi, hoi, hall⟩ := mem_ready.1 hi
      have hil := hlt i oi hoi
      refine mem_ready.2 ⟨getD_in (by rw [inv.size]; exact hil) ?_, oi, hoi, fun e he hb => ?_⟩
      · rw [hboth i hil, getD_both hu]
        cases hd : dn i with
        | true => exact absurd (hdn i hd) hik
        | false => rfl
      · have h1 := hall e he hb
        have hes : e.on < ops.size := by
          rcases Nat.lt_or_ge e.on ops.size with h' | h'
          · exact h'
          · rw [← hlq] at h'
            simp [Array.getElem?_eq_none h'] at h1
        rw [hboth _ hes, h1]
        rfl
    have hex : ∃ i, i < n ∧ i ∈ Region.ready md ops ls := by
      cases f with
      | succ f =>
        obtain ⟨⟨i, hi, him, hin⟩, _⟩ := h
        exact ⟨i, hin, up i hi (by simpa using him)⟩
      | zero =>
        have hpos : 0 < (ks.filter (fun j => !dn j)).length := by omega
        obtain ⟨m, hm⟩ := List.exists_mem_of_length_pos hpos
        obtain ⟨hm1, hm2⟩ := List.mem_filter.1 hm
        obtain ⟨hmn, om, d, hom, _, _, _, haf⟩ := ok.maker m hm1
        refine ⟨m, hmn, mem_ready.2 ⟨getD_in (by rw [inv.size]; omega) ?_, om, hom, fun e he hb => ?_⟩⟩
        · rw [hboth m (by omega), hlk m hm1]
          simpa using hm2
        · have h2 := haf e he hb
          rw [hboth _ (by omega), getD_of_true (hend _ _ h e.on h2.2 h2.1) (by rw [hlq]; omega)]
          rfl
    obtain ⟨i0, hi0, hr0⟩ := hex
    have hhead : ∀ i, i ∈ Region.ready md ops ls → i < n := fun i hi => Nat.lt_of_not_le fun hge => tail_waits2 hsink' hlater hn inv _ i0 rfl hi0 (mem_ready.1 hr0).1 i hge hi
    refine ⟨fun h0 => absurd hr0 (by rw [h0]; exact List.not_mem_nil), fun i hi => ?_⟩
    have hin := hhead i hi
    obtain ⟨hun, oi, hoi, hdep⟩ := mem_ready.1 hi
    have his : i < ops.size := hlt i oi hoi
    have hiF : ls.getD i false = false := getD_both hun
    have hlqF : lq.getD i false = false ∧ dn i = false := by
      have := hboth i his
      rw [hiF] at this
      simpa [Bool.or_eq_false_iff] using this.symm
    have setF : ∀ (x : Array Bool) j, x.size = ops.size → j < ops.size → (x.setIfInBounds i true).getD j false = (decide (j = i) || x.getD j false) := by
      intro x j hx hj
      by_cases e : j = i
      · subst e
        simp [hx, hj]
      · rw [getD_set_ne false (Ne.symm e)]
        simp [e]
    have sub' : ∀ j, (ls.setIfInBounds i true).getD j true = false → ls0.getD j true = false := by
      intro j hj
      by_cases e : j = i
      · subst e
        simp [inv.size, his] at hj
      · rw [getD_set_ne true (Ne.symm e)] at hj
        exact hsub j hj
    by_cases hik : i ∈ ks
    · obtain ⟨_, om, d, hom, hd, hdN, hg, haf⟩ := ok.maker i hik
      have : oi = om := Option.some.inj (hoi.symm.trans hom)
      subst this
      have hdepq : ∀ e ∈ oi.after, Region.binds md e = true → lq.getD e.on false = true := by
        intro e he hb
        have h1 := hdep e he hb
        have h2 := haf e he hb
        rw [hboth _ (by omega)] at h1
        cases hd' : dn e.on with
        | true => exact absurd (hdn _ hd') h2.1
        | false => simpa [hd'] using h1
      have mk := HM_makes (Good := Goods i) (fun cs b => hns i oi cs b hoi) (fun j oj hj hjn hjm hno => ok.apart i hik oi hoi j oj hj hjn (by simpa using hjm) hno) (fun ls' a' hL => hmk ls' a' hL i hik oi hoi) f lq aq hdepq h
      have mk' : Makes P W blk (Goods i) oi a := mk.of_same (agr.exec (ops := ops) oi (fun cs b => hns i oi cs b hoi) (by
        rintro s hs ⟨m', hm', om', hom', hdm'⟩
        refine (ok.looks m' (hdn m' hm') om' s hom' hdm' i oi hoi hin ?_).1 hs
        intro e
        subst e
        rw [hlqF.2] at hm'
        cases hm'))
      unfold wpOp
      simp only [hoi]
      rw [if_pos (by simp [Region.wanted, hg])]
      refine .inl (mk'.wp hW fun v w' hgood hb hnew => ?_)
      have hcount := count_less (dn := dn) (dn' := fun j => decide (j = i) || dn j) ks ok.nodup hik hlqF.2 (by simp) (fun j hj => by simp [hj])
      refine ih f (fun j => decide (j = i) || dn j) _ lq _ aq w' (by omega) (inv.set hi hin) sub' hlq (fun j hj => ?_) (fun m hm => ?_) hlk (by rw [put_size]; exact hN) ?_ (fun m hm om' d' hom' hd' => ?_) (fun m m' hm hm' hne om1 om2 d1 d2 v1 v2 ho1 ho2 hd1 hd2 hv1 hv2 => ?_) (hW.trans (hb.mono hW.size)) h
      · rw [setF ls j inv.size hj, hboth j hj]
        cases lq.getD j false <;> cases dn j <;> simp
      · simp only [Bool.or_eq_true, decide_eq_true_eq] at hm
        rcases hm with rfl | hm
        · exact hik
        · exact hdn m hm
      · rw [hd]
        exact (agr.more fun s ⟨m, hm, x⟩ => ⟨m, by simp [hm], x⟩).own ⟨i, by simp, oi, hoi, hd⟩ v
      · simp only [Bool.or_eq_true, decide_eq_true_eq] at hm
        by_cases e : m = i
        · subst e
          have : oi = om' := Option.some.inj (hoi.symm.trans hom')
          subst this
          have : d = d' := Option.some.inj (hd.symm.trans hd')
          subst this
          refine ⟨v, ?_, hgood⟩
          rw [hd]
          simp [Act.put, hN, hdN]
        · have hm' := hm.resolve_left e
          obtain ⟨v', hv', hg'⟩ := good m hm' om' d' hom' hd'
          refine ⟨v', ?_, hgm _ _ _ _ hg' hb⟩
          rw [put_ne]
          · exact hv'
          · exact (ok.looks m (hdn m hm') om' d' hom' hd' i oi hoi hin (Ne.symm e)).2
      · simp only [Bool.or_eq_true, decide_eq_true_eq] at hm hm'
        have old : ∀ m om d x, m ≠ i → (m = i ∨ dn m = true) → ops[m]? = some om → om.dst = some d → (a.put oi.dst v).tmps[d]? = some x → a.tmps[d]? = some x ∧ dn m = true := by
          intro m om d x hmi hmd hom hd hv
          have hmd' := hmd.resolve_left hmi
          rw [put_ne _ _ (ok.looks m (hdn m hmd') om d hom hd i oi hoi hin (Ne.symm hmi)).2] at hv
          exact ⟨hv, hmd'⟩
        have new : ∀ om d' v', ops[i]? = some om → om.dst = some d' → (a.put oi.dst v).tmps[d']? = some v' → v' = v := by
          intro om d' v' hom hd' hv
          have : oi = om := Option.some.inj (hoi.symm.trans hom)
          subst this
          have : d = d' := Option.some.inj (hd.symm.trans hd')
          subst this
          rw [hd] at hv
          simp [Act.put, hN, hdN] at hv
          exact hv.symm
        by_cases e1 : m = i
        · subst e1
          have hv1' := new om1 d1 v1 ho1 hd1 hv1
          subst hv1'
          obtain ⟨hv2', hdm2⟩ := old m' om2 d2 v2 (Ne.symm hne) hm' ho2 hd2 hv2
          obtain ⟨v2', hg1, hg2⟩ := good m' hdm2 om2 d2 ho2 hd2
          have : v2 = v2' := Option.some.inj (hv2'.symm.trans hg1)
          subst this
          intro b hb1 hb2
          have := hgb _ _ _ _ hg2 hb2
          have := hnew b hb1
          omega
        · by_cases e2 : m' = i
          · subst e2
            have hv2' := new om2 d2 v2 ho2 hd2 hv2
            subst hv2'
            obtain ⟨hv1', hdm1⟩ := old m om1 d1 v1 e1 hm ho1 hd1 hv1
            obtain ⟨v1', hg1, hg2⟩ := good m hdm1 om1 d1 ho1 hd1
            have : v1 = v1' := Option.some.inj (hv1'.symm.trans hg1)
            subst this
            intro b hb1 hb2
            have := hgb _ _ _ _ hg2 hb1
            have := hnew b hb2
            omega
          · obtain ⟨hv1', hdm1⟩ := old m om1 d1 v1 e1 hm ho1 hd1 hv1
            obtain ⟨hv2', hdm2⟩ := old m' om2 d2 v2 e2 hm' ho2 hd2 hv2
            exact dist m m' hdm1 hdm2 hne om1 om2 d1 d2 v1 v2 ho1 ho2 hd1 hd2 hv1' hv2'
    · have hiq : i ∈ Region.ready md ops lq := by
        refine mem_ready.2 ⟨getD_in (by rw [hlq]; exact his) hlqF.1, oi, hoi, fun e he hb => ?_⟩
        have h1 := hdep e he hb
        have hes : e.on < ops.size := by
          rcases Nat.lt_or_ge e.on ops.size with h' | h'
          · exact h'
          · rw [← inv.size] at h'
            simp [Array.getElem?_eq_none h'] at h1
        rw [hboth _ hes] at h1
        cases hd' : dn e.on with
        | true => exact absurd (hdn _ hd') (ok.quiet i oi hoi hin hik e he hb)
        | false => simpa [hd'] using h1
      cases f with
      | zero =>
        have := hend _ _ h i hin hik
        rw [(mem_ready.1 hiq).1] at this
        cases this
      | succ f =>
        obtain ⟨v, hy, hU⟩ := h.2 i oi hiq (by simpa using hik) hin hoi
        have hl : ∀ s ∈ oi.looksAt ops, ¬ slotsOf ops (fun m => dn m = true) s := by
          rintro s hs ⟨m', hm', om', hom', hdm'⟩
          refine (ok.looks m' (hdn m' hm') om' s hom' hdm' i oi hoi hin ?_).1 hs
          intro e
          subst e
          rw [hlqF.2] at hm'
          cases hm'
        have hy' : YieldsIn P ops (CW w) oi v a := (hy w hW).of_same (agr.exec (ops := ops) oi (fun cs b => hns i oi cs b hoi) hl) (agr.wanted oi hl)
        have hq : qOp P ops (CW w) i (fun a' => a' = a.put oi.dst v) a := hy'.qOp hoi rfl
        refine wpOp_of_qOp (CW.of (Below.refl _ _)) (fun a' w' hw' e' => ?_) hq
        rw [e']
        have hb := hw'.below
        refine ih f dn _ (lq.setIfInBounds i true) _ (aq.put oi.dst v) w' (by omega) (inv.set hi hin) sub' (by simpa using hlq) (fun j hj => ?_) hdn (fun m hm => ?_) (by rw [put_size]; exact hN) (agr.put _ _) (fun m hm om' d' hom' hd' => ?_) (fun m m' hm hm' hne om1 om2 d1 d2 v1 v2 ho1 ho2 hd1 hd2 hv1 hv2 => ?_) (hW.trans (hb.mono hW.size)) hU
        · rw [setF ls j inv.size hj, setF lq j hlq hj, hboth j hj, Bool.or_assoc]
        · rw [getD_set_ne false (by intro e; subst e; exact hik hm)]
          exact hlk m hm
        · obtain ⟨v', hv', hg'⟩ := good m hm om' d' hom' hd'
          refine ⟨v', ?_, hgm _ _ _ _ hg' hb⟩
          rw [put_ne]
          · exact hv'
          · exact (ok.looks m (hdn m hm) om' d' hom' hd' i oi hoi hin (by intro e; subst e; exact hik (hdn _ hm))).2
        · rw [put_ne _ _ (ok.looks m (hdn m hm) om1 d1 ho1 hd1 i oi hoi hin (by intro e; subst e; exact hik (hdn _ hm))).2] at hv1
          rw [put_ne _ _ (ok.looks m' (hdn m' hm') om2 d2 ho2 hd2 i oi hoi hin (by intro e; subst e; exact hik (hdn _ hm'))).2] at hv2
          exact dist m m' hm hm' hne om1 om2 d1 d2 v1 v2 ho1 ho2 hd1 hd2 hv1 hv2

def makersB (ops : Array Oper) (n : Nat) (ks : List Nat) (N : Nat) : Bool :=
  decide ks.Nodup && ks.all (fun m => decide (m < n) && match ops[m]? with
    | some om => (match om.dst with | some d => decide (d < N) && (List.range n).all (fun i => decide (i = m) || match ops[i]? with | some oi => !(oi.looksAt ops).contains d && !(oi.dst == some d) | none => true) | none => false) && om.guard.isNone &&
        om.after.all (fun e => !Region.binds .any e || (!ks.contains e.on && decide (e.on < n))) &&
        (List.range n).all (fun i => ks.contains i || match ops[i]? with | some oi => om.after.any (fun e => Region.binds .any e && e.on == i) || oi.apart ops om | none => true)
    | none => false) &&
  (List.range n).all (fun i => ks.contains i || match ops[i]? with | some oi => oi.after.all (fun e => !(Region.binds .any e && ks.contains e.on)) | none => true)

theorem makersB_spec {n N : Nat} {ks : List Nat} (h : makersB ops n ks N = true) : MakersOk .any ops n ks N := by
  simp only [makersB, Bool.and_eq_true, decide_eq_true_eq, List.all_eq_true, List.mem_range, Bool.or_eq_true] at h
  obtain ⟨⟨hnd, hall⟩, hq⟩ := h
  have key : ∀ m ∈ ks, ∃ om d, ops[m]? = some om ∧ om.dst = some d ∧ m < n ∧ d < N ∧ om.guard = none ∧
      (∀ i, i < n → i ≠ m → ∀ oi, ops[i]? = some oi → d ∉ oi.looksAt ops ∧ oi.dst ≠ some d) ∧ (∀ e ∈ om.after, Region.binds .any e = true → e.on ∉ ks ∧ e.on < n) ∧
      (∀ i, i < n → i ∉ ks → ∀ oi, ops[i]? = some oi → (∀ e ∈ om.after, Region.binds .any e = true → e.on ≠ i) → oi.apart ops om = true) := by
    intro m hm
    obtain ⟨h1, h2⟩ := hall m hm
    cases hom : ops[m]? with
    | none => simp [hom] at h2
    | some om =>
      simp only [hom, Bool.and_eq_true, Array.all_eq_true', Bool.or_eq_true, Bool.not_eq_true', decide_eq_true_eq, List.all_eq_true, List.mem_range] at h2
      obtain ⟨⟨⟨h3, h4⟩, h5⟩, h6⟩ := h2
      cases hd : om.dst with
      | none => simp [hd] at h3
      | some d =>
        simp only [hd, Bool.and_eq_true, decide_eq_true_eq, List.all_eq_true, List.mem_range, Bool.or_eq_true] at h3
        refine ⟨om, d, rfl, hd, h1, h3.1, by simpa using h4, fun i hi hne oi hoi => ?_, fun e he hb => ?_, fun i hi hik oi hoi hno => ?_⟩
        · have := (h3.2 i hi).resolve_left hne
          simp only [hoi, Bool.and_eq_true, Bool.not_eq_true', List.contains_eq_mem, decide_eq_false_iff_not, beq_eq_false_iff_ne] at this
          exact this
        · have := (h5 e he).resolve_left (by simp [hb])
          simpa using this
        · have := (h6 i hi).resolve_left (by simpa using hik)
          simp only [hoi, Bool.or_eq_true, Array.any_eq_true', Bool.and_eq_true, beq_iff_eq] at this
          rcases this with ⟨e, he, hb, hon⟩ | h
          · exact absurd hon (hno e he hb)
          · exact h
  refine ⟨hnd, fun m hm => ?_, fun i oi hoi hi hik e he hb => ?_, fun m hm om hom i oi hoi hi hik hno => ?_, fun m hm om d hom hd i oi hoi hi hne => ?_⟩
  · obtain ⟨om, d, h1, h2, h3, h4, h5, h6, h7, h8⟩ := key m hm
    exact ⟨h3, om, d, h1, h2, h4, h5, h7⟩
  · have := (hq i hi).resolve_left (by simpa using hik)
    simp only [hoi, Array.all_eq_true', Bool.not_eq_true', Bool.and_eq_false_iff] at this
    have h1 := (this e he).resolve_left (by simp [hb])
    simpa using h1
  · obtain ⟨om', d, h1, h2, h3, h4, h5, h6, h7, h8⟩ := key m hm
    have : om' = om := Option.some.inj (h1.symm.trans hom)
    subst this
    exact h8 i hi hik oi hoi hno
  · obtain ⟨om', d', h1, h2, h3, h4, h5, h6, h7, h8⟩ := key m hm
    have : om' = om := Option.some.inj (h1.symm.trans hom)
    subst this
    have : d' = d := Option.some.inj (h2.symm.trans hd)
    subst this
    exact h6 i hi hne oi hoi

def fullM (ks : List Nat) (ls : Array Bool) : Array Bool := ks.foldl (fun x m => x.setIfInBounds m true) ls
theorem fullM_size (ks : List Nat) : ∀ ls : Array Bool, (fullM ks ls).size = ls.size := by
  induction ks with
  | nil => exact fun _ => rfl
  | cons k ks ih => exact fun ls => (ih _).trans (by simp)
theorem fullM_at (ks : List Nat) : ∀ (ls : Array Bool) j, j < ls.size → (fullM ks ls).getD j false = (ls.getD j false || ks.contains j) := by
  induction ks with
  | nil => intro ls j _; simp [fullM]
  | cons k ks ih =>
    intro ls j hj
    have := ih (ls.setIfInBounds k true) j (by simpa using hj)
    show (fullM ks (ls.setIfInBounds k true)).getD j false = _
    rw [this]
    by_cases e : k = j
    · subst e
      simp [hj]
    · rw [getD_set_ne false e]
      have e' : (j == k) = false := by simp; exact fun h => e h.symm
      simp only [List.contains_cons, e', Bool.false_or]
theorem full_eq {ks : List Nat} {ls lq : Array Bool} (h1 : ls.size = lq.size) (h2 : ∀ j, j < lq.size → ls.getD j false = (lq.getD j false || ks.contains j)) : ls = fullM ks lq := by
  apply Array.ext
  · rw [fullM_size, h1]
  · intro j hj hj'
    have := h2 j (by omega)
    rw [← fullM_at ks lq j (by omega)] at this
    simpa [hj, hj'] using this

def stageB (ops : Array Oper) (b n : Nat) (ks : List Nat) (ls0 : Array Bool) (N : Nat) (s : List Oper) : Bool :=
  Region.noSelect ops && decide (n < ops.size) && makersB ops n ks N && decide (ls0.size = ops.size) &&
  (List.range ops.size).all (fun j => (!ls0.getD j false || match ops[j]? with | some oj => oj.after.all (fun e => !Region.binds .any e || ls0.getD e.on false) | none => true) && (decide (j < n) || !ls0.getD j true)) &&
  (List.range n).all (fun i => ls0.getD i true || (List.range (n + 1)).any (fun j => decide (i < j) && Region.waitsFor .any ops j i)) &&
  (List.range ops.size).all (fun t => decide (t ≤ n) || (List.range t).any (fun x => decide (n ≤ x) && Region.waitsFor .any ops t x)) &&
  ks.all (fun m => !ls0.getD m true) && decide (b + s.length = n) && lexM .any ops (fun i => ks.contains i) s.length b ls0 &&
  dstsUnder N (quietOf (fun i => ks.contains i) b s) && dstsDiffer (quietOf (fun i => ks.contains i) b s) &&
  (List.range n).all (fun j => ks.contains j || (lsM (fun i => ks.contains i) s.length b ls0).getD j true)

theorem region_stage {Q : Exit → Act → World → Prop} {a A : Act} {s : List Oper} {w0 : World} {blk : Value → Option Nat} {Goods : Nat → Value → World → Prop} (b n g : Nat) (ks : List Nat) (ls0 : Array Bool)
    (hsl : ∀ j, j < s.length → s[j]? = ops[b + j]?) (hB : stageB ops b n ks ls0 a.tmps.size s = true) (hgm : ∀ m v w w', Goods m v w → Below w.heap.size w w' → Goods m v w') (hgb : ∀ m v w b, Goods m v w → blk v = some b → b < w.heap.size)
    (hq : ∀ V, Below W.heap.size W V → wpQuiet P ops (CW V) (fun a' => a' = A) (quietOf (fun i => ks.contains i) b s) a)
    (hmk : ∀ m ∈ ks, ∀ om, ops[m]? = some om → Makes P W blk (Goods m) om A)
    (ht : ∀ a' w1, Agree (slotsOf ops (· ∈ ks)) a' A → (∀ m ∈ ks, ∀ om d, ops[m]? = some om → om.dst = some d → ∃ v, a'.tmps[d]? = some v ∧ Goods m v w1) → Distinct ops (· ∈ ks) blk a' → Below W.heap.size W w1 →
      wpAny P .any ops Q g (fullM ks (lsM (fun i => ks.contains i) s.length b ls0)) a' w1)
    (hw : Below W.heap.size W w0) : wpAny P .any ops Q (g + ((quietOf (fun i => ks.contains i) b s).length + ks.length)) ls0 a w0 := by
  simp only [stageB, Bool.and_eq_true, decide_eq_true_eq] at hB
  obtain ⟨⟨⟨⟨⟨⟨⟨⟨⟨⟨⟨⟨hsel, hn⟩, hmB⟩, hsz⟩, hcl⟩, hsink⟩, hlater⟩, hk0⟩, hbn⟩, hlex⟩, hd1⟩, hd2⟩, hdone⟩ := hB
  have ok := makersB_spec hmB
  simp only [List.all_eq_true, List.mem_range, Bool.and_eq_true, Bool.or_eq_true, Bool.not_eq_true'] at hcl
  have inv0 : HeadInv .any ops n ls0 := by
    refine ⟨hsz, fun j oj hj hl e he hb => ?_, fun t ht' ht2 => ?_⟩
    · have hjs : j < ops.size := (Array.getElem?_eq_some_iff.1 hj).1
      have := (hcl j hjs).1.resolve_left (by rw [hl]; simp)
      simp only [hj, Array.all_eq_true', Bool.or_eq_true, Bool.not_eq_true'] at this
      exact (this e he).resolve_left (by simp [hb])
    · exact (hcl t ht2).2.resolve_left (by simp; omega)
  have hks0 : ∀ m ∈ ks, ls0.getD m true = false := fun m hm => by simpa using List.all_eq_true.1 hk0 m hm
  let L : Array Bool → Act → Prop := fun ls a' => ls = lsM (fun i => ks.contains i) s.length b ls0 ∧ a' = A
  have hend : ∀ ls a', L ls a' → ∀ j, j < n → j ∉ ks → ls.getD j true = true := by
    rintro ls a' ⟨rfl, _⟩ j hj hjk
    have := List.all_eq_true.1 hdone j (List.mem_range.2 hj)
    rw [show ks.contains j = false by simpa using hjk, Bool.false_or] at this
    exact this
  have hM := HM_lex (P := P) (W := W) (md := .any) (A := A) (L := L) hsel (fun ls a' hL j hj hjm => hend ls a' hL j hj (by simpa using hjm)) s b ls0 a hsl hbn hlex hd1 hd2 hq ⟨rfl, rfl⟩
  refine HM_any (W := W) (g := g) (N := a.tmps.size) (Goods := Goods) (L := L) (ls0 := ls0) (Region.noSelect_spec hsel) (fun i hi hu => ?_) (fun t ht1 ht2 => ?_) hn ok hgm hgb ?_ hend ?_ _ _ (fun _ => false) ls0 ls0 a a w0 ?_ inv0 (fun _ h => h) hsz (fun j _ => by simp) (fun _ h => by cases h) (fun m hm => getD_both (hks0 m hm)) rfl (Agree.refl _ _) (fun _ h => by cases h) (fun _ _ h => by cases h) hw hM
  · have := List.all_eq_true.1 hsink i (List.mem_range.2 hi)
    rw [hu, Bool.false_or] at this
    obtain ⟨j, hj, hj2⟩ := List.any_eq_true.1 this
    simp only [Bool.and_eq_true, decide_eq_true_eq] at hj2
    exact ⟨j, hj2.1, by have := List.mem_range.1 hj; omega, hj2.2⟩
  · have := List.all_eq_true.1 hlater t (List.mem_range.2 ht2)
    simp only [Bool.or_eq_true, decide_eq_true_eq] at this
    obtain ⟨x, hx, hx2⟩ := List.any_eq_true.1 (this.resolve_left (by omega))
    simp only [Bool.and_eq_true, decide_eq_true_eq] at hx2
    exact ⟨x, hx2.1, List.mem_range.1 hx, hx2.2⟩
  · rintro ls a' ⟨rfl, rfl⟩ m hm om hom
    exact hmk m hm om hom
  · rintro ls lq a' aq w1 ⟨rfl, rfl⟩ h1 h2 h3 h4 h6 h5
    have hsz' : ∀ (f i : Nat) (x : Array Bool), (lsM (fun i => ks.contains i) f i x).size = x.size := by
      intro f
      induction f with
      | zero => exact fun _ _ => rfl
      | succ f ih =>
        intro i x
        simp only [lsM]
        split
        · exact ih _ _
        · rw [ih]; simp
    rw [full_eq (ks := ks) (by rw [h1, hsz', hsz]) (fun j hj => h2 j (by rw [hsz', hsz] at hj; exact hj))]
    exact ht a' w1 h3 h4 h6 h5
  · simp

theorem act_one {a A : Act} {k : Nat} {ok : Oper} {d : Tmp} {v : Value} (hok : ops[k]? = some ok) (hd : ok.dst = some d) (h : Agree (slotsOf ops (· ∈ [k])) a A) (hv : a.tmps[d]? = some v) : a = A.put (some d) v := by
  obtain ⟨t, ds⟩ := a
  obtain ⟨T, D⟩ := A
  have h1 := h.defers
  have h2 := h.size
  simp only at h1 h2 hv
  subst h1
  simp only [Act.put, Act.mk.injEq, and_true]
  apply Array.ext_getElem?
  intro i
  by_cases e : d = i
  · subst e
    have : d < T.size := by rw [← h2]; exact (Array.getElem?_eq_some_iff.1 hv).1
    rw [hv]
    simp [this]
  · rw [Array.getElem?_setIfInBounds_ne e]
    refine h.at_ i ?_
    rintro ⟨m, hm, om, hom, hdm⟩
    have : m = k := by simpa using hm
    subst this
    have : ok = om := Option.some.inj (hok.symm.trans hom)
    subst this
    exact e (Option.some.inj (hd.symm.trans hdm))
theorem act_two {a A : Act} {k1 k2 : Nat} {o1 o2 : Oper} {d1 d2 : Tmp} {v1 v2 : Value} (ho1 : ops[k1]? = some o1) (ho2 : ops[k2]? = some o2) (hd1 : o1.dst = some d1) (hd2 : o2.dst = some d2) (hne : d1 ≠ d2)
    (h : Agree (slotsOf ops (· ∈ [k1, k2])) a A) (hv1 : a.tmps[d1]? = some v1) (hv2 : a.tmps[d2]? = some v2) : a = (A.put (some d1) v1).put (some d2) v2 := by
  obtain ⟨t, ds⟩ := a
  obtain ⟨T, D⟩ := A
  have h1 := h.defers
  have h2 := h.size
  simp only at h1 h2 hv1 hv2
  subst h1
  simp only [Act.put, Act.mk.injEq, and_true]
  have l1 : d1 < T.size := by rw [← h2]; exact (Array.getElem?_eq_some_iff.1 hv1).1
  have l2 : d2 < T.size := by rw [← h2]; exact (Array.getElem?_eq_some_iff.1 hv2).1
  apply Array.ext_getElem?
  intro i
  by_cases e2 : d2 = i
  · subst e2
    rw [hv2]
    simp [l2]
  · rw [Array.getElem?_setIfInBounds_ne e2]
    by_cases e1 : d1 = i
    · subst e1
      rw [hv1]
      simp [l1]
    · rw [Array.getElem?_setIfInBounds_ne e1]
      refine h.at_ i ?_
      rintro ⟨m, hm, om, hom, hdm⟩
      have : m = k1 ∨ m = k2 := by simpa using hm
      rcases this with rfl | rfl
      · have : o1 = om := Option.some.inj (ho1.symm.trans hom)
        subst this
        exact e1 (Option.some.inj (hd1.symm.trans hdm))
      · have : o2 = om := Option.some.inj (ho2.symm.trans hom)
        subst this
        exact e2 (Option.some.inj (hd2.symm.trans hdm))

theorem quietOf_append (isM : Nat → Bool) (s t : List Oper) : ∀ i, quietOf isM i (s ++ t) = quietOf isM i s ++ quietOf isM (i + s.length) t := by
  induction s with
  | nil => intro i; rfl
  | cons o s ih =>
    intro i
    simp only [List.cons_append, quietOf, List.length_cons]
    split
    · rw [ih, show i + 1 + s.length = i + (s.length + 1) by omega]
    · rw [ih, show i + 1 + s.length = i + (s.length + 1) by omega]
      rfl
theorem quietOf_all {isM : Nat → Bool} (s : List Oper) : ∀ i, (∀ j, j < s.length → isM (i + j) = false) → quietOf isM i s = s := by
  induction s with
  | nil => exact fun _ _ => rfl
  | cons o s ih =>
    intro i h
    have h0 := h 0 (by simp)
    simp only [Nat.add_zero] at h0
    simp only [quietOf, h0, Bool.false_eq_true, if_false]
    rw [ih (i + 1) fun j hj => by
      have := h (j + 1) (by simpa using hj)
      rwa [show i + 1 + j = i + (j + 1) by omega]]
end

section
variable {P : Program} {W : World} {id : Nat} {Q : Exit → Act → World → Prop} {a : Act} {l : List Oper}
def regionB (ops : Array Oper) (n : Nat) (ks : List Nat) (N : Nat) (s : List Oper) : Bool :=
  stageB ops 0 n ks (Array.replicate ops.size false) N s && Region.seqB .any ops (ops.size - n) n (fullM ks (lsM (fun i => ks.contains i) s.length 0 (Array.replicate ops.size false))) &&
  decide (ops.size - n + ((quietOf (fun i => ks.contains i) 0 s).length + ks.length) = ops.size)

theorem region_makers {A : Act} {blk : Value → Option Nat} {Goods : Nat → Value → World → Prop} (n : Nat) (ks : List Nat) (hm : P.follows .mixedOrders = true) (hB : regionB l.toArray n ks a.tmps.size (l.take n) = true) (hgm : ∀ m v w w', Goods m v w → Below w.heap.size w w' → Goods m v w') (hgb : ∀ m v w b, Goods m v w → blk v = some b → b < w.heap.size)
    (hq : ∀ V, Below W.heap.size W V → wpQuiet P l.toArray (CW V) (fun a' => a' = A) (quietOf (fun i => ks.contains i) 0 (l.take n)) a)
    (hmk : ∀ m ∈ ks, ∀ om, l[m]? = some om → Makes P W blk (Goods m) om A)
    (ht : ∀ a' w1, Agree (slotsOf l.toArray (· ∈ ks)) a' A → (∀ m ∈ ks, ∀ om d, l[m]? = some om → om.dst = some d → ∃ v, a'.tmps[d]? = some v ∧ Goods m v w1) → Distinct l.toArray (· ∈ ks) blk a' → Below W.heap.size W w1 → wpList P l.toArray Q (l.drop n) a' w1) : (Code.region id l.toArray true).wp P Q a W := by
  simp only [regionB, Bool.and_eq_true, decide_eq_true_eq] at hB
  obtain ⟨⟨hst, hseq⟩, hlen⟩ := hB
  refine wp_region_any hm ?_
  rw [← hlen]
  have hr : (Array.replicate (l.toArray.size - n + ((quietOf (fun i => ks.contains i) 0 (l.take n)).length + ks.length)) false) = Array.replicate l.toArray.size false := by rw [hlen]
  rw [hr]
  refine region_stage (W := W) (Goods := Goods) 0 n _ ks _ (fun j hj => ?_) hst hgm hgb hq (fun m hm' om hom => hmk m hm' om (by simpa using hom)) (fun a' w1 h1 h2 h4 h3 => ?_) (Below.refl _ W).drew
  · have : j < n := by rw [List.length_take] at hj; omega
    simp [this]
  · have hdl : (l.drop n).length = l.toArray.size - n := by simp
    have := wpAny_of_seq (P := P) (md := .any) (Q' := Q) (l.drop n) n _ a' w1 (fun j => by simp [List.getElem?_drop]) (by rw [hdl]; exact hseq) (ht a' w1 h1 (fun m hm' om d hom hd => h2 m hm' om d (by simpa using hom) hd) h4 h3)
    rwa [hdl] at this

/-- One maker, number k; behind it the chain from number n on. -/
theorem region_make1 {A : Act} {ok : Oper} {d : Tmp} {Good : Value → World → Prop} (n k : Nat) (hm : P.follows .mixedOrders = true) (hok : l[k]? = some ok) (hd : ok.dst = some d) (hB : regionB l.toArray n [k] a.tmps.size (l.take n) = true) (hkn : k < n)
    (hgm : ∀ v w w', Good v w → Below w.heap.size w w' → Good v w')
    (hq : ∀ V, Below W.heap.size W V → wpQuiet P l.toArray (fun w' => ∃ y : Ext V, w' = ext y) (fun a' => a' = A) (l.take k ++ (l.take n).drop (k + 1)) a)
    (hk : Makes P W (fun _ => none) Good ok A)
    (ht : ∀ v w1, Good v w1 → Below W.heap.size W w1 → wpList P l.toArray Q (l.drop n) (A.put (some d) v) w1) : (Code.region id l.toArray true).wp P Q a W := by
  have hkl : k < l.length := (List.getElem?_eq_some_iff.1 hok).1
  have hsplit : l.take n = l.take k ++ ok :: (l.take n).drop (k + 1) := by
    have h1 : (l.take n)[k]? = some ok := by rw [List.getElem?_take_of_lt hkn]; exact hok
    have h2 := List.drop_eq_getElem_cons (l := l.take n) (i := k) (List.getElem?_eq_some_iff.1 h1).1
    rw [(List.getElem?_eq_some_iff.1 h1).2] at h2
    have h3 : (l.take n).take k = l.take k := by rw [List.take_take]; congr 1; omega
    have h4 := List.take_append_drop k (l.take n)
    rw [h2, h3] at h4
    exact h4.symm
  have hqo : quietOf (fun i => [k].contains i) 0 (l.take n) = l.take k ++ (l.take n).drop (k + 1) := by
    rw [hsplit, quietOf_append, quietOf_all (l.take k) 0 (fun j hj => by simp at hj ⊢; omega)]
    rw [← hsplit]
    simp only [quietOf]
    have hlk : (l.take k).length = k := by rw [List.length_take]; omega
    rw [hlk]
    simp only [Nat.zero_add, List.contains_cons, beq_self_eq_true, Bool.true_or, if_true]
    rw [quietOf_all _ _ (fun j hj => by simp; omega)]
  refine region_makers (blk := fun _ => none) (Goods := fun _ => Good) n [k] hm hB (fun _ => hgm) (fun _ _ _ _ _ h => by cases h) (by rw [hqo]; exact hq) (fun m hm' om hom => ?_) (fun a' w1 h1 h2 _ h3 => ?_)
  · have : m = k := by simpa using hm'
    subst this
    have : ok = om := Option.some.inj (hok.symm.trans hom)
    subst this
    exact hk
  · obtain ⟨v, hv, hg⟩ := h2 k (by simp) ok d hok hd
    rw [act_one (ops := l.toArray) (by simpa using hok) hd h1 hv]
    exact ht v w1 hg h3
/-- Two makers, numbers j < k. -/
theorem region_make2 {A : Act} {oj ok : Oper} {e d : Tmp} {blk : Value → Option Nat} {Good1 Good2 : Value → World → Prop} (n j k : Nat) (hm : P.follows .mixedOrders = true) (hoj : l[j]? = some oj) (hok : l[k]? = some ok) (he : oj.dst = some e) (hd : ok.dst = some d) (hed : e ≠ d) (hB : regionB l.toArray n [j, k] a.tmps.size (l.take n) = true) (hjk : j < k) (hkn : k < n)
    (hg1 : ∀ v w w', Good1 v w → Below w.heap.size w w' → Good1 v w') (hg2 : ∀ v w w', Good2 v w → Below w.heap.size w w' → Good2 v w') (hb1 : ∀ v w b, Good1 v w → blk v = some b → b < w.heap.size) (hb2 : ∀ v w b, Good2 v w → blk v = some b → b < w.heap.size)
    (hq : ∀ V, Below W.heap.size W V → wpQuiet P l.toArray (fun w' => ∃ y : Ext V, w' = ext y) (fun a' => a' = A) (l.take j ++ ((l.take k).drop (j + 1) ++ (l.take n).drop (k + 1))) a)
    (hk1 : Makes P W blk Good1 oj A) (hk2 : Makes P W blk Good2 ok A)
    (ht : ∀ u v w1, Good1 u w1 → Good2 v w1 → (∀ b, blk u = some b → blk v ≠ some b) → Below W.heap.size W w1 → wpList P l.toArray Q (l.drop n) ((A.put (some e) u).put (some d) v) w1) : (Code.region id l.toArray true).wp P Q a W := by
  have hkl : k < l.length := (List.getElem?_eq_some_iff.1 hok).1
  have split1 : ∀ (m k : Nat) (o : Oper), k < m → l[k]? = some o → l.take m = l.take k ++ o :: (l.take m).drop (k + 1) := by
    intro m k o hkm ho
    have h1 : (l.take m)[k]? = some o := by rw [List.getElem?_take_of_lt hkm]; exact ho
    have h2 := List.drop_eq_getElem_cons (l := l.take m) (i := k) (List.getElem?_eq_some_iff.1 h1).1
    rw [(List.getElem?_eq_some_iff.1 h1).2] at h2
    have h3 : (l.take m).take k = l.take k := by rw [List.take_take]; congr 1; omega
    have h4 := List.take_append_drop k (l.take m)
    rw [h2, h3] at h4
    exact h4.symm
  have hqo : quietOf (fun i => [j, k].contains i) 0 (l.take n) = l.take j ++ ((l.take k).drop (j + 1) ++ (l.take n).drop (k + 1)) := by
    rw [split1 n k ok hkn hok, quietOf_append, ← split1 n k ok hkn hok]
    have e1 : quietOf (fun i => [j, k].contains i) 0 (l.take k) = l.take j ++ (l.take k).drop (j + 1) := by
      rw [split1 k j oj hjk hoj, quietOf_append, quietOf_all (l.take j) 0 (fun i hi => by simp at hi ⊢; omega), ← split1 k j oj hjk hoj]
      have hlj : (l.take j).length = j := by rw [List.length_take]; omega
      simp only [quietOf, hlj]
      simp only [Nat.zero_add, List.contains_cons, beq_self_eq_true, Bool.true_or, if_true]
      rw [quietOf_all _ _ (fun i hi => by simp at hi ⊢; omega)]
    rw [e1]
    have hlk : (l.take k).length = k := by rw [List.length_take]; omega
    simp only [quietOf, hlk]
    simp only [Nat.zero_add, List.contains_cons, beq_self_eq_true, Bool.true_or, Bool.or_true, if_true]
    rw [quietOf_all _ _ (fun i hi => by simp; omega), List.append_assoc]
  refine region_makers (Goods := fun m => if m = j then Good1 else Good2) n [j, k] hm hB (fun m v w w' => by split; exact hg1 v w w'; exact hg2 v w w') (fun m v w b => by split; exact hb1 v w b; exact hb2 v w b) (by rw [hqo]; exact hq) (fun m hm' om hom => ?_) (fun a' w1 h1 h2 h4 h3 => ?_)
  · have : m = j ∨ m = k := by simpa using hm'
    rcases this with rfl | rfl
    · have : oj = om := Option.some.inj (hoj.symm.trans hom)
      subst this
      simpa using hk1
    · have : ok = om := Option.some.inj (hok.symm.trans hom)
      subst this
      rw [if_neg (by omega)]
      exact hk2
  · obtain ⟨u, hu, hg⟩ := h2 j (by simp) oj e hoj he
    obtain ⟨v, hv, hg'⟩ := h2 k (by simp) ok d hok hd
    rw [if_pos rfl] at hg
    rw [if_neg (by omega)] at hg'
    have hne := h4 j k (by simp) (by simp) (by omega) oj ok e d u v (by simpa using hoj) (by simpa using hok) he hd hu hv
    rw [act_two (ops := l.toArray) (by simpa using hoj) (by simpa using hok) he hd hed h1 hu hv]
    exact ht u v w1 hg hg' hne h3
end
/-! What makers make. -/
def NewCells (W : World) (f : Nat → Value) (cs : Array Value) (T : TypeId) (v : Value) (w : World) : Prop := ∃ b, W.heap.size ≤ b ∧ b < w.heap.size ∧ w.heap[b]? = some (.cells cs T (0, 0)) ∧ v = f b
theorem NewCells.mono {W : World} {f : Nat → Value} {cs : Array Value} {T : TypeId} : ∀ v w w', NewCells W f cs T v w → Below w.heap.size w w' → NewCells W f cs T v w' := by
  rintro v w w' ⟨b, h1, h2, h3, h4⟩ hb
  exact ⟨b, h1, Nat.lt_of_lt_of_le h2 hb.size, by rw [hb.block b h2]; exact h3, h4⟩
theorem makes_new {P : Program} {W : World} {f : Nat → Value} {cs : Array Value} {T : TypeId} {o : Oper} {a : Act} (h : ∀ w : World, (execOp a.eval o).run P w = .ok (.value (f w.heap.size)) (w.alloc (.cells cs T))) : Makes P W (fun _ => none) (NewCells W f cs T) o a := fun V hV => by
  rw [h V]
  refine ⟨⟨V.heap.size, hV.size, by simp, ?_, rfl⟩, (Below.refl _ _).alloc (Nat.le_refl _) _, fun _ h => by cases h⟩
  exact heap_alloc_new V _
/-- The block of a new pointer. -/
def pblk : Value → Option Nat
  | .pointer (some a) => some a.block
  | _ => none
def newPtr (b : Nat) : Value := .pointer (some ⟨b, 0, none⟩)
theorem makes_ptr {P : Program} {W : World} {cs : Array Value} {T : TypeId} {o : Oper} {a : Act} (h : ∀ w : World, (execOp a.eval o).run P w = .ok (.value (newPtr w.heap.size)) (w.alloc (.cells cs T))) : Makes P W pblk (NewCells W newPtr cs T) o a := fun V hV => by
  rw [h V]
  refine ⟨⟨V.heap.size, hV.size, by simp, ?_, rfl⟩, (Below.refl _ _).alloc (Nat.le_refl _) _, fun b h => ?_⟩
  · exact heap_alloc_new V _
  · have : V.heap.size = b := Option.some.inj h
    omega
theorem ptr_lt {W : World} {cs : Array Value} {T : TypeId} : ∀ v w b, NewCells W newPtr cs T v w → pblk v = some b → b < w.heap.size := by
  rintro v w b ⟨b', h1, h2, h3, rfl⟩ h
  have : b' = b := Option.some.inj h
  omega
theorem store_in {w : World} {b i : Nat} {cs : Array Value} {T : TypeId} {u : Value} (h : w.heap[b]? = some (.cells cs T (0, 0))) : (w.setCell ⟨b, i, none⟩ u).heap[b]? = some (.cells (cs.setIfInBounds i u) T (0, 0)) := heap_setCell_same w b i cs T u h
theorem store_off {w : World} {b i k : Nat} {u : Value} {x : Option Obj} (h : w.heap[k]? = x) (hn : k ≠ b) : (w.setCell ⟨b, i, none⟩ u).heap[k]? = x := (heap_setCell_other w ⟨b, i, none⟩ k u hn).trans h
theorem store4 {w : World} {b : Nat} {v0 v1 v2 v3 u0 u1 u2 u3 : Value} {T : TypeId} (h : w.heap[b]? = some (.cells #[v0, v1, v2, v3] T (0, 0))) :
    ((((w.setCell ⟨b, 0, none⟩ u0).setCell ⟨b, 1, none⟩ u1).setCell ⟨b, 2, none⟩ u2).setCell ⟨b, 3, none⟩ u3).heap[b]? = some (.cells #[u0, u1, u2, u3] T (0, 0)) := store_in (store_in (store_in (store_in h)))
theorem store4_off {w : World} {b k : Nat} {u0 u1 u2 u3 : Value} {x : Option Obj} (h : w.heap[k]? = x) (hn : k ≠ b) :
    ((((w.setCell ⟨b, 0, none⟩ u0).setCell ⟨b, 1, none⟩ u1).setCell ⟨b, 2, none⟩ u2).setCell ⟨b, 3, none⟩ u3).heap[k]? = x := store_off (store_off (store_off (store_off h hn) hn) hn) hn
theorem ext_below {W : World} (x : Ext W) : Below W.heap.size W (ext x) := x.2
theorem grown_trans {w1 w2 w3 : World} {row : Option Nat} (h : w1.grownBy w2 row) (k : w2.grownBy w3 row) : w1.grownBy w3 row :=
  ⟨k.os.trans h.os, k.tape.trans h.tape, k.output.trans h.output, Nat.le_trans h.size k.size, fun j hj hr => (k.block j (Nat.lt_of_lt_of_le hj h.size) hr).trans (h.block j hj hr)⟩
theorem below_grown {w w' : World} (h : Below w.heap.size w w') (row : Option Nat) : w.grownBy w' row := ⟨h.os, h.tape, h.output, h.size, fun j hj _ => h.block j hj⟩
theorem own_store1 {w : World} {base : Nat} {e : TypeId} {size g n cap : Nat} {xs : List Value} (h : w.ownsRow base e size (.slice (some ⟨g, 0, none⟩) n cap) n xs) (j : Nat) (u : Value) :
    ∃ xs', (w.setCell ⟨g, j, none⟩ u).ownsRow base e size (.slice (some ⟨g, 0, none⟩) n cap) n xs' ∧ w.grownBy (w.setCell ⟨g, j, none⟩ u) (some g) := ⟨_, h.stored j u⟩
end Go.Proofs.YtnkojoajcdhngaaDoor
