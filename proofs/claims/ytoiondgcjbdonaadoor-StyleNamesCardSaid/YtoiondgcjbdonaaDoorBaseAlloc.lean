/- A region that draws its order, whose head is quiet but for one new block, which may be made at any time ('out := f(..)', out a struct). -/
import Derived.Test.YtoiondgcjbdonaaDoorBase
namespace Go.Proofs.YtoiondgcjbdonaaDoor
set_option linter.unusedVariables false
set_option linter.unusedSimpArgs false
set_option maxRecDepth 100000
open Go.RowKit

section
variable {P : Program} {ops : Array Oper} {W : World}
def CV (V : World) : World → Prop := fun w' => ∃ y : Ext V, w' = ext y
theorem CV.of {V w : World} (h : Below V.heap.size V w) : CV V w := ⟨⟨w, h⟩, rfl⟩
theorem CV.below {V w : World} (h : CV V w) : Below V.heap.size V w := by
  obtain ⟨y, rfl⟩ := h
  exact y.2
/-- One value, in every class of worlds above W. -/
def YU (P : Program) (ops : Array Oper) (W : World) (o : Oper) (v : Value) (a : Act) : Prop := ∀ V, Below W.heap.size W V → YieldsIn P ops (CV V) o v a

theorem size_put (a : Act) (d : Option Tmp) (v : Value) : (a.put d v).tmps.size = a.tmps.size := by
  cases d <;> simp [Act.put]

theorem slot_kept {C : World → Prop} {A : Act} {d : Tmp} (s : List Oper) : ∀ (a : Act), (∀ o ∈ s, o.dst ≠ some d) → wpQuiet P ops C (fun a' => a' = A) s a → A.tmps[d]? = a.tmps[d]? := by
  induction s with
  | nil =>
    intro a _ h
    have h' : a = A := h
    rw [h']
  | cons o s ih =>
    intro a hd h
    have key : ∀ v, (a.put o.dst v).tmps[d]? = a.tmps[d]? := by
      intro v
      have hne := hd o (by simp)
      cases ho : o.dst with
      | none => rfl
      | some e =>
        simp only [Act.put]
        rw [Array.getElem?_setIfInBounds_ne]
        intro he
        rw [he] at ho
        exact hne ho
    unfold wpQuiet at h
    split at h
    · obtain ⟨v, _, h2⟩ := h
      rw [ih _ (fun x hx => hd x (by simp [hx])) h2, key]
    · rw [ih _ (fun x hx => hd x (by simp [hx])) h, key]

theorem uni {A : Act} {o : Oper} {s : List Oper} {a : Act} {d : Tmp} (hd : o.dst = some d) (hlt : d < a.tmps.size) (hs : ∀ x ∈ s, x.dst ≠ some d)
    (h : ∀ V, Below W.heap.size W V → wpQuiet P ops (CV V) (fun a' => a' = A) (o :: s) a) : ∃ v, YU P ops W o v a ∧ ∀ V, Below W.heap.size W V → wpQuiet P ops (CV V) (fun a' => a' = A) s (a.put o.dst v) := by
  by_cases hw : Region.wanted o (yielded ops a.tmps) = true
  · have hv : ∀ V, Below W.heap.size W V → (∀ w, CV V w → o.quietAt P a (CV V) w (A.tmps.getD d undef)) ∧ wpQuiet P ops (CV V) (fun a' => a' = A) s (a.put o.dst (A.tmps.getD d undef)) := by
      intro V hV
      have h1 := h V hV
      unfold wpQuiet at h1
      rw [if_pos hw] at h1
      obtain ⟨v, h2, h3⟩ := h1
      have h4 := slot_kept s _ hs h3
      have h5 : v = A.tmps.getD d undef := by
        rw [Array.getD_eq_getD_getElem?, h4, hd]
        simp [Act.put, hlt]
      rw [← h5]
      exact ⟨h2, h3⟩
    exact ⟨_, fun V hV => .inl ⟨hw, (hv V hV).1⟩, fun V hV => (hv V hV).2⟩
  · refine ⟨undef, fun V hV => .inr ⟨by simpa using hw, rfl⟩, fun V hV => ?_⟩
    have h1 := h V hV
    unfold wpQuiet at h1
    rwa [if_neg hw] at h1

variable {md : Region.Mode}
/-- Whatever order, the operation k left out. -/
def HU (P : Program) (md : Region.Mode) (ops : Array Oper) (W : World) (n k : Nat) (L : Array Bool → Act → Prop) : Nat → Array Bool → Act → Prop
  | 0, ls, a => L ls a
  | f + 1, ls, a => (∃ i, i ∈ Region.ready md ops ls ∧ i ≠ k ∧ i < n) ∧ ∀ i oi, i ∈ Region.ready md ops ls → i ≠ k → ops[i]? = some oi → i < n ∧ ∃ v, YU P ops W oi v a ∧ HU P md ops W n k L f (ls.setIfInBounds i true) (a.put oi.dst v)

theorem YU.moved {oi oj : Oper} {u v : Value} {a : Act} (hsj : ∀ cs b, oj.op ≠ .select cs b) (hap : oi.apart ops oj = true) (h : YU P ops W oj u (a.put oi.dst v)) : YU P ops W oj u a := fun V hV => by
  obtain ⟨h1, _, _⟩ := Oper.apart_spec hap
  exact (h V hV).of_same (execOp_put oj hsj a oi.dst v h1).symm (wanted_put oj a oi.dst v h1).symm
theorem YU.back {oi oj : Oper} {u v : Value} {a : Act} (hsj : ∀ cs b, oj.op ≠ .select cs b) (hap : oi.apart ops oj = true) (h : YU P ops W oj u a) : YU P ops W oj u (a.put oi.dst v) := fun V hV => by
  obtain ⟨h1, _, _⟩ := Oper.apart_spec hap
  exact (h V hV).of_same (execOp_put oj hsj a oi.dst v h1) (wanted_put oj a oi.dst v h1)
theorem YU.held {oi oj : Oper} {u v : Value} {a : Act} (hsi : ∀ cs b, oi.op ≠ .select cs b) (hap : oi.apart ops oj = true) (h : YU P ops W oi u a) : YU P ops W oi u (a.put oj.dst v) := fun V hV => by
  obtain ⟨_, _, h3⟩ := Oper.apart_spec hap
  exact (h V hV).of_same (execOp_put oi hsi a oj.dst v h3) (wanted_put oi a oj.dst v h3)

theorem HU_take {n k i : Nat} {oi : Oper} {v : Value} {L : Array Bool → Act → Prop} (hi : ops[i]? = some oi) (hns : ∀ (j : Nat) (o : Oper) cs b, ops[j]? = some o → o.op ≠ .select cs b)
    (hs : Region.sinkB md ops n = true) (hc : Region.chainB md ops n = true) (hn : n < ops.size) (hin : i < n) (hik : i ≠ k) (hkn : k < n)
    (hend : ∀ ls a, L ls a → ∀ j, j < n → j ≠ k → ls.getD j true = true) (f : Nat) :
    ∀ (ls : Array Bool) (a : Act), HeadInv md ops n ls → ls.getD k true = false →
      (∀ j oj, ops[j]? = some oj → j ≠ i → ls.getD j true = false → (∀ e ∈ oj.after, Region.binds md e = true → e.on ≠ i) → oi.apart ops oj = true) →
      i ∈ Region.ready md ops ls → YU P ops W oi v a → HU P md ops W n k L f (ls.setIfInBounds i true) (a.put oi.dst v) → HU P md ops W n k L (f + 1) ls a := by
  induction f with
  | zero =>
    intro ls a inv hku hfree hr hy H
    refine ⟨⟨i, hr, hik, hin⟩, fun j oj hj hjk hoj => ?_⟩
    have hjn : j < n := Nat.lt_of_not_le fun hge => tail_waits hs hc hn inv _ k rfl hkn hku j hge hj
    by_cases e : j = i
    · subst e
      have : oj = oi := Option.some.inj (hoj.symm.trans hi)
      subst this
      exact ⟨hin, v, hy, H⟩
    · have h1 := hend _ _ H j hjn hjk
      rw [getD_set_ne true (Ne.symm e), (mem_ready.1 hj).1] at h1
      exact Bool.noConfusion h1
  | succ f ih =>
    intro ls a inv hku hfree hr hy H
    refine ⟨⟨i, hr, hik, hin⟩, fun j oj hj hjk hoj => ?_⟩
    have hjn : j < n := Nat.lt_of_not_le fun hge => tail_waits hs hc hn inv _ k rfl hkn hku j hge hj
    refine ⟨hjn, ?_⟩
    by_cases e : j = i
    · subst e
      have : oj = oi := Option.some.inj (hoj.symm.trans hi)
      subst this
      exact ⟨v, hy, H⟩
    obtain ⟨hju, oj', hoj', hall⟩ := mem_ready.1 hj
    have : oj' = oj := Option.some.inj (hoj'.symm.trans hoj)
    subst this
    have hun := (mem_ready.1 hr).1
    have hno : ∀ x ∈ oj'.after, Region.binds md x = true → x.on ≠ i := by
      intro x hx hb hon
      have := hall x hx hb
      rw [hon, getD_both hun] at this
      exact Bool.noConfusion this
    have hap := hfree j oj' hoj e hju hno
    obtain ⟨_, u, hu, hU⟩ := H.2 j oj' (ready_mono hj e) hjk hoj
    refine ⟨u, hu.moved (fun cs b => hns j oj' cs b hoj) hap, ?_⟩
    refine ih _ _ (inv.set hj hjn) (by rw [getD_set_ne true hjk]; exact hku) (fun m om h1 h2 h3 h4 => hfree m om h1 h2 ?_ h4) (ready_mono hr (Ne.symm e)) (hy.held (fun cs b => hns i oi cs b hi) hap) ?_
    · by_cases hjm : j = m
      · rw [← hjm]
        exact hju
      · rwa [getD_set_ne true hjm] at h3
    · rw [Array.setIfInBounds_comm _ _ e]
      have := (Oper.apart_spec hap).2.1
      rwa [Act.put_comm a v u this] at hU

def lexSeg (md : Region.Mode) (ops : Array Oper) : Nat → Nat → Array Bool → Bool
  | 0, _, _ => true
  | f + 1, i, ls => (Region.ready md ops ls).contains i && Region.free md ops ls i && lexSeg md ops f (i + 1) (ls.setIfInBounds i true)
def lsAfter : Nat → Nat → Array Bool → Array Bool
  | 0, _, ls => ls
  | f + 1, i, ls => lsAfter f (i + 1) (ls.setIfInBounds i true)
def dstsIn (N : Nat) (s : List Oper) : Bool := s.all fun o => match o.dst with | some d => decide (d < N) | none => false
def dstsApart : List Oper → Bool
  | [] => true
  | o :: s => s.all (fun x => !(x.dst == o.dst)) && dstsApart s

theorem dstsApart_right (s t : List Oper) (h : dstsApart (s ++ t) = true) : dstsApart t = true := by
  induction s with
  | nil => exact h
  | cons o s ih =>
    simp only [List.cons_append, dstsApart, Bool.and_eq_true] at h
    exact ih h.2

theorem HU_seg {n k : Nat} {A : Act} {L : Array Bool → Act → Prop} (hsel : Region.noSelect ops = true) (hs : Region.sinkB md ops n = true) (hc : Region.chainB md ops n = true) (hn : n < ops.size) (hkn : k < n)
    (hend : ∀ ls a, L ls a → ∀ j, j < n → j ≠ k → ls.getD j true = true) (t : List Oper) (f : Nat) (s : List Oper) :
    ∀ (i : Nat) (ls : Array Bool) (a : Act), (∀ j, j < s.length → s[j]? = ops[i + j]?) → (∀ j, j < s.length → i + j ≠ k ∧ i + j < n) → HeadInv md ops n ls → ls.getD k true = false → lexSeg md ops s.length i ls = true →
      dstsIn a.tmps.size (s ++ t) = true → dstsApart (s ++ t) = true → (∀ V, Below W.heap.size W V → wpQuiet P ops (CV V) (fun a' => a' = A) (s ++ t) a) →
      (∀ a', a'.tmps.size = a.tmps.size → HeadInv md ops n (lsAfter s.length i ls) → (lsAfter s.length i ls).getD k true = false → (∀ V, Below W.heap.size W V → wpQuiet P ops (CV V) (fun a'' => a'' = A) t a') → HU P md ops W n k L f (lsAfter s.length i ls) a') →
      HU P md ops W n k L (f + s.length) ls a := by
  induction s with
  | nil =>
    intro i ls a _ _ inv hku _ _ _ h hk
    exact hk a rfl inv hku h
  | cons o s ih =>
    intro i ls a hl hik inv hku hB hd1 hd2 h hk
    have ho : ops[i]? = some o := by simpa using (hl 0 (by simp)).symm
    have hi0 := hik 0 (by simp)
    simp only [Nat.add_zero] at hi0
    simp only [List.length_cons, lexSeg, Bool.and_eq_true] at hB
    simp only [List.cons_append, dstsIn, List.all_cons, Bool.and_eq_true] at hd1
    simp only [List.cons_append, dstsApart, Bool.and_eq_true, List.all_eq_true, Bool.not_eq_true', beq_eq_false_iff_ne] at hd2
    have hr : i ∈ Region.ready md ops ls := by simpa using hB.1.1
    obtain ⟨d, hd⟩ : ∃ d, o.dst = some d := by
      cases hdd : o.dst with
      | none => simp [hdd] at hd1
      | some d => exact ⟨d, rfl⟩
    have hdlt : d < a.tmps.size := by simpa [hd] using hd1.1
    obtain ⟨v, hy, hrest⟩ := uni hd hdlt (fun x hx => by rw [← hd]; exact hd2.1 x hx) h
    refine HU_take ho (Region.noSelect_spec hsel) hs hc hn hi0.2 hi0.1 hkn hend _ ls a inv hku (Region.free_spec ho hB.1.2) hr hy ?_
    refine ih (i + 1) _ _ (fun j hj => ?_) (fun j hj => ?_) (inv.set hr hi0.2) (by rw [getD_set_ne true hi0.1]; exact hku) hB.2 (by rw [size_put]; exact hd1.2) hd2.2 hrest (fun a' ha' hinv' hku' h' => ?_)
    · have := hl (j + 1) (by simpa using hj)
      rw [List.getElem?_cons_succ] at this
      rw [this, show i + 1 + j = i + (j + 1) by omega]
    · have := hik (j + 1) (by simpa using hj)
      rwa [show i + 1 + j = i + (j + 1) by omega]
    · exact hk a' (by rw [ha', size_put]) hinv' hku' h'

/-- The new block has been made. -/
theorem HU_after {n k g : Nat} {ok : Oper} {p : Value} {V : World} {L : Array Bool → Act → Prop} {Q : Exit → Act → World → Prop} (hok : ops[k]? = some ok) (hns : ∀ (j : Nat) (o : Oper) cs b, ops[j]? = some o → o.op ≠ .select cs b)
    (hs : Region.sinkB md ops n = true) (hc : Region.chainB md ops n = true) (hn : n < ops.size)
    (hno : ∀ i oi, ops[i]? = some oi → i < n → ∀ e ∈ oi.after, Region.binds md e = true → e.on ≠ k) (hap : ∀ i oi, ops[i]? = some oi → i < n → i ≠ k → ok.apart ops oi = true) (hV : Below W.heap.size W V)
    (hL : ∀ ls a w, L ls a → Below V.heap.size V w → wpAny P md ops Q g (ls.setIfInBounds k true) (a.put ok.dst p) w) (f : Nat) :
    ∀ (ls : Array Bool) (a : Act) (w : World), HeadInv md ops n (ls.setIfInBounds k true) → Below V.heap.size V w → HU P md ops W n k L f ls a → wpAny P md ops Q (g + f) (ls.setIfInBounds k true) (a.put ok.dst p) w := by
  induction f with
  | zero => exact fun ls a w _ hw h => hL ls a w h hw
  | succ f ih =>
    intro ls a w inv hw h
    obtain ⟨⟨i0, hi0, hik0, hin0⟩, hall⟩ := h
    have hr0 := ready_mono hi0 hik0
    refine ⟨fun h0 => absurd hr0 (by rw [h0]; exact List.not_mem_nil), fun i hi => ?_⟩
    obtain ⟨hun, oi, hoi, hdep⟩ := mem_ready.1 hi
    have hin : i < n := Nat.lt_of_not_le fun hge => tail_waits hs hc hn inv _ i0 rfl hin0 (mem_ready.1 hr0).1 i hge hi
    have hik : i ≠ k := by
      intro e
      subst e
      have hlt : i < ls.size := by have := inv.size; simp at this; have := (Array.getElem?_eq_some_iff.1 hoi).1; omega
      simp [hlt] at hun
    have hi' : i ∈ Region.ready md ops ls := by
      refine mem_ready.2 ⟨by rwa [getD_set_ne true (Ne.symm hik)] at hun, oi, hoi, fun e he hb => ?_⟩
      have := hdep e he hb
      rwa [getD_set_ne false (Ne.symm (hno i oi hoi hin e he hb))] at this
    obtain ⟨_, v, hy, hU⟩ := hall i oi hi' hik hoi
    have hap' := hap i oi hoi hin hik
    have hq : qOp P ops (CV V) i (fun a' => a' = (a.put oi.dst v).put ok.dst p) (a.put ok.dst p) :=
      (hy.back (v := p) (fun cs b => hns i oi cs b hoi) hap' V hV).qOp hoi (Act.put_comm a p v (Oper.apart_spec hap').2.1)
    refine wpOp_of_qOp (CV.of hw) (fun a' w' hw' e => ?_) hq
    rw [e, Array.setIfInBounds_comm _ _ (Ne.symm hik)]
    exact ih _ _ w' (by rw [← Array.setIfInBounds_comm _ _ (Ne.symm hik)]; exact inv.set hi hin) hw'.below hU

theorem HU_any {n k g : Nat} {ok : Oper} {obj : Obj} {L : Array Bool → Act → Prop} {Q : Exit → Act → World → Prop} (hok : ops[k]? = some ok) (hg : ok.guard = none)
    (hrun : ∀ (a : Act) (w : World), (execOp a.eval ok).run P w = .ok (.value (.pointer (some ⟨w.heap.size, 0, none⟩))) (w.alloc obj)) (hns : ∀ (j : Nat) (o : Oper) cs b, ops[j]? = some o → o.op ≠ .select cs b)
    (hs : Region.sinkB md ops n = true) (hc : Region.chainB md ops n = true) (hn : n < ops.size) (hkn : k < n)
    (hno : ∀ i oi, ops[i]? = some oi → i < n → ∀ e ∈ oi.after, Region.binds md e = true → e.on ≠ k) (hap : ∀ i oi, ops[i]? = some oi → i < n → i ≠ k → ok.apart ops oi = true)
    (hdone : ∀ ls a, L ls a → ∀ j, j < n → j ≠ k → ls.getD j true = true)
    (hL : ∀ ls a b w, L ls a → W.heap.size ≤ b → w.heap[b]? = some obj → Below W.heap.size W w → wpAny P md ops Q g (ls.setIfInBounds k true) (a.put ok.dst (.pointer (some ⟨b, 0, none⟩))) w) (f : Nat) :
    ∀ (ls : Array Bool) (a : Act) (w : World), HeadInv md ops n ls → k ∈ Region.ready md ops ls → Below W.heap.size W w → HU P md ops W n k L f ls a → wpAny P md ops Q (g + f + 1) ls a w := by
  have alloc : ∀ (f : Nat) (ls : Array Bool) (a : Act) (w : World), HeadInv md ops n ls → k ∈ Region.ready md ops ls → Below W.heap.size W w → HU P md ops W n k L f ls a → wpOp P ops Q k (wpAny P md ops Q (g + f) (ls.setIfInBounds k true)) a w := by
    intro f ls a w inv hr hw h
    unfold wpOp
    simp only [hok]
    rw [if_pos (by simp [Region.wanted, hg])]
    refine .inl ?_
    unfold Oper.wp
    rw [hrun, Oper.upon_value]
    have hV : Below W.heap.size W (w.alloc obj) := hw.alloc hw.size obj
    refine HU_after hok hns hs hc hn hno hap hV (fun ls' a' w' hl hb => hL ls' a' _ w' hl hw.size ?_ (hV.trans (hb.mono hV.size))) f ls a _ (inv.set hr hkn) (Below.refl _ _) h
    rw [hb.block _ (by simp)]
    show (w.heap.push obj)[w.heap.size]? = some obj
    simp
  induction f with
  | zero =>
    intro ls a w inv hr hw h
    refine ⟨fun h0 => absurd hr (by rw [h0]; exact List.not_mem_nil), fun i hi => ?_⟩
    by_cases e : i = k
    · rw [e]
      exact alloc 0 ls a w inv hr hw h
    · have hin : i < n := Nat.lt_of_not_le fun hge => tail_waits hs hc hn inv _ k rfl hkn (mem_ready.1 hr).1 i hge hi
      have := hdone ls a h i hin e
      rw [(mem_ready.1 hi).1] at this
      exact Bool.noConfusion this
  | succ f ih =>
    intro ls a w inv hr hw h
    refine ⟨fun h0 => absurd hr (by rw [h0]; exact List.not_mem_nil), fun i hi => ?_⟩
    by_cases e : i = k
    · rw [e]
      exact alloc (f + 1) ls a w inv hr hw h
    · have hin : i < n := Nat.lt_of_not_le fun hge => tail_waits hs hc hn inv _ k rfl hkn (mem_ready.1 hr).1 i hge hi
      obtain ⟨_, oi, hoi, _⟩ := mem_ready.1 hi
      obtain ⟨_, v, hy, hU⟩ := h.2 i oi hi e hoi
      have hq : qOp P ops (CV W) i (fun a' => a' = a.put oi.dst v) a := (hy W (Below.refl _ _)).qOp hoi rfl
      refine wpOp_of_qOp (CV.of hw) (fun a' w' hw' e' => ?_) hq
      rw [e']
      exact ih _ _ w' (inv.set hi hin) (ready_mono hr (Ne.symm e)) hw'.below hU

def allocB (ops : Array Oper) (N n k : Nat) (s t : List Oper) : Bool :=
  Region.noSelect ops && decide (n < ops.size) && decide (k < n) && Region.sinkB .any ops n && Region.chainB .any ops n && decide (s.length = k) && decide (k + 1 + t.length = n) &&
  lexSeg .any ops k 0 (Array.replicate ops.size false) && lexSeg .any ops t.length (k + 1) (lsAfter k 0 (Array.replicate ops.size false)) &&
  Region.seqB .any ops (ops.size - n) n ((lsAfter t.length (k + 1) (lsAfter k 0 (Array.replicate ops.size false))).setIfInBounds k true) &&
  (Region.ready .any ops (lsAfter t.length (k + 1) (lsAfter k 0 (Array.replicate ops.size false)))).contains k && (Region.ready .any ops (Array.replicate ops.size false)).contains k &&
  (List.range n).all (fun j => decide (j = k) || (lsAfter t.length (k + 1) (lsAfter k 0 (Array.replicate ops.size false))).getD j true) &&
  (List.range n).all (fun i => match ops[i]?, ops[k]? with | some oi, some ok => oi.after.all (fun e => !(Region.binds .any e && e.on == k)) && (decide (i = k) || ok.apart ops oi) | _, _ => false) &&
  dstsIn N (s ++ t) && dstsApart (s ++ t)

/-- 'out := f(..)': the head quiet over 'Below', in every world above W; one operation of it makes a new block; the tail (its store) behind. -/
theorem region_alloc {id : Nat} {Q : Exit → Act → World → Prop} {a : Act} {l : List Oper} (n k : Nat) (ok : Oper) (obj : Obj) (A : Act) (hm : P.follows .mixedOrders = true) (hok : l[k]? = some ok) (hg : ok.guard = none)
    (hrun : ∀ (a : Act) (w : World), (execOp a.eval ok).run P w = .ok (.value (.pointer (some ⟨w.heap.size, 0, none⟩))) (w.alloc obj))
    (hB : allocB l.toArray a.tmps.size n k (l.take k) ((l.take n).drop (k + 1)) = true)
    (h : ∀ V, Below W.heap.size W V → wpQuiet P l.toArray (fun w' => ∃ y : Ext V, w' = ext y) (fun a' => a' = A) (l.take k ++ (l.take n).drop (k + 1)) a)
    (ht : ∀ b w1, W.heap.size ≤ b → w1.heap[b]? = some obj → Below W.heap.size W w1 → wpList P l.toArray Q (l.drop n) (A.put ok.dst (.pointer (some ⟨b, 0, none⟩))) w1) : (Code.region id l.toArray true).wp P Q a W := by
  simp only [allocB, Bool.and_eq_true, decide_eq_true_eq] at hB
  obtain ⟨⟨⟨⟨⟨⟨⟨⟨⟨⟨⟨⟨⟨⟨⟨hsel, hn⟩, hkn⟩, hs⟩, hc⟩, hsk⟩, htn⟩, hl1⟩, hl2⟩, hseq⟩, _⟩, hrk⟩, hdone⟩, hpair⟩, hd1⟩, hd2⟩ := hB
  have hn' : n < l.length := by simpa using hn
  have hok' : l.toArray[k]? = some ok := by simpa using hok
  have inv0 : HeadInv .any l.toArray n (Array.replicate l.toArray.size false) :=
    ⟨by simp, fun j oj _ hl => (by rw [getD_replicate_false] at hl; cases hl), fun t _ ht => getD_in (by simpa using ht) (getD_replicate_false _ _)⟩
  have hk0 : (Array.replicate l.toArray.size false).getD k true = false := getD_in (by simp; omega) (getD_replicate_false _ _)
  let L : Array Bool → Act → Prop := fun ls a' => ls = lsAfter ((l.take n).drop (k + 1)).length (k + 1) (lsAfter k 0 (Array.replicate l.toArray.size false)) ∧ a' = A
  have hend : ∀ ls a', L ls a' → ∀ j, j < n → j ≠ k → ls.getD j true = true := by
    rintro ls a' ⟨rfl, _⟩ j hj hjk
    have := List.all_eq_true.1 hdone j (List.mem_range.2 hj)
    simpa [hjk] using this
  have hpr : ∀ i oi, l.toArray[i]? = some oi → i < n → (∀ e ∈ oi.after, Region.binds .any e = true → e.on ≠ k) ∧ (i ≠ k → ok.apart l.toArray oi = true) := by
    intro i oi hoi hin
    have := List.all_eq_true.1 hpair i (List.mem_range.2 hin)
    simp only [hoi, hok', Bool.and_eq_true, Array.all_eq_true', Bool.not_eq_true', Bool.and_eq_false_iff, Bool.or_eq_true, decide_eq_true_eq] at this
    refine ⟨fun e he hb hon => ?_, fun hik => this.2.resolve_left hik⟩
    rcases this.1 e he with h1 | h1
    · rw [hb] at h1
      exact Bool.noConfusion h1
    · simp [hon] at h1
  have hU : HU P .any l.toArray W n k L (0 + ((l.take n).drop (k + 1)).length + (l.take k).length) (Array.replicate l.toArray.size false) a := by
    refine HU_seg hsel hs hc hn hkn hend ((l.take n).drop (k + 1)) _ (l.take k) 0 _ a (fun j hj => ?_) (fun j hj => ?_) inv0 hk0 (by rw [hsk]; exact hl1) hd1 hd2 h (fun a' ha' inv1 hku1 h1 => ?_)
    · have hj' : j < k := by rwa [hsk] at hj
      simp [hj']
    · have hj' : j < k := by rwa [hsk] at hj
      omega
    · rw [hsk] at inv1 hku1 ⊢
      have hsplit : dstsIn a'.tmps.size ((l.take n).drop (k + 1)) = true ∧ dstsApart ((l.take n).drop (k + 1)) = true := by
        constructor
        · rw [ha']
          unfold dstsIn at hd1 ⊢
          rw [List.all_append, Bool.and_eq_true] at hd1
          exact hd1.2
        · exact dstsApart_right _ _ hd2
      have := HU_seg (f := 0) (A := A) (L := L) hsel hs hc hn hkn hend [] ((l.take n).drop (k + 1)) (k + 1) _ a' (fun j hj => ?_) (fun j hj => ?_) inv1 hku1 hl2 (by simpa using hsplit.1) (by simpa using hsplit.2) (by simpa using h1) (fun a'' _ _ _ h2 => ⟨rfl, h2 W (Below.refl _ _)⟩)
      · exact this
      · have hj' : k + 1 + j < n := by omega
        simp [List.getElem?_drop, List.getElem?_take, hj']
      · omega
  have R := HU_any (W := W) (g := l.toArray.size - n) (Q := Q) (obj := obj) hok' hg hrun (Region.noSelect_spec hsel) hs hc hn hkn (fun i oi h1 h2 => (hpr i oi h1 h2).1) (fun i oi h1 h2 h3 => (hpr i oi h1 h2).2 h3) hend
    (fun ls a' b w1 hl hb hw1 hbl => by
      obtain ⟨rfl, rfl⟩ := hl
      have hdl : (l.drop n).length = l.toArray.size - n := by simp
      have := wpAny_of_seq (P := P) (md := .any) (Q' := Q) (l.drop n) n _ _ w1 (fun j => by simp [List.getElem?_drop]) (by rw [hdl]; exact hseq) (ht b w1 hb hw1 hbl)
      rwa [hdl] at this) _ _ a { W with drawn := W.drawn + 1 } inv0 (by simpa using hrk) (Below.refl _ W).drew hU
  refine wp_region_any hm ?_
  have e : l.toArray.size - n + (0 + ((l.take n).drop (k + 1)).length + (l.take k).length) + 1 = l.toArray.size := by
    rw [hsk]
    have : l.toArray.size = l.length := by simp
    omega
  rwa [e] at R
end
section
variable {w : World} {g : Nat} {t : TypeId} {cs : Array Value}
theorem blk_lt (h : w.heap[g]? = some (.cells cs t (0, 0))) : g < w.heap.size := by
  rcases Nat.lt_or_ge g w.heap.size with hlt | hge
  · exact hlt
  · rw [Array.getElem?_eq_none hge] at h
    cases h
theorem blk_cell (h : w.heap[g]? = some (.cells cs t (0, 0))) : ∀ i : Nat, w.cell? ⟨g, i, none⟩ = cs[i]? := fun i => cell_of_row w g i cs t (0, 0) h
theorem blk_frozen (h : w.heap[g]? = some (.cells cs t (0, 0))) : ∀ i : Nat, w.frozen? ⟨g, i, none⟩ = false := fun i => by simp [World.frozen?, h]
end
end Go.Proofs.YtoiondgcjbdonaaDoor
