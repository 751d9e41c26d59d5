/- A region that draws its order, whose head's operations make memory of their own and wait for one another as they like: each operation is told from what it looks at; a chain behind them. -/
import Derived.Test.YtnkojoajcdhngaaDoorBaseMake
import Derived.Test.YtnkojoajcdhngaaDoorMem
namespace Go.Proofs.YtnkojoajcdhngaaDoor
set_option linter.unusedVariables false
set_option linter.unusedSimpArgs false
set_option maxRecDepth 100000
open Go.RowKit

/-- What an operation comes to: a value of which G holds, in a world that is as w below w's size. -/
def upon1 (P : Program) (w : World) (G : Value → World → Prop) : Result Next → Prop
  | .ok (.value v) w' => G v w' ∧ Below w.heap.size w w'
  | .ok (.enter f args) w' => Calls P f args w' (fun e w'' => ∃ v, e = .returned v ∧ G v w'' ∧ Below w.heap.size w w'')
  | _ => False
theorem upon1.wp {P : Program} {w : World} {G : Value → World → Prop} {o : Oper} {a : Act} {K : Act → World → Prop} {Q : Exit → Act → World → Prop} (h : upon1 P w G ((execOp a.eval o).run P w))
    (hK : ∀ v w', G v w' → Below w.heap.size w w' → K (a.put o.dst v) w') : o.wp P a w K Q := by
  unfold Oper.wp
  generalize (execOp a.eval o).run P w = r at *
  cases r with
  | ok n w' =>
    cases n <;> simp only [upon1] at h <;> simp only [Oper.upon]
    case value v => exact hK v w' h.1 h.2
    case enter f args =>
      refine h.mono fun e w'' he => ?_
      obtain ⟨v, rfl, hg, hb⟩ := he
      exact hK v w'' hg hb
  | halt x w' => simp only [upon1] at h

/-- The slots of the first n operations. -/
def dsOf (l : List Oper) (n : Nat) : List Tmp := (l.take n).map fun o => o.dst.getD 0
def putsOf (a : Act) : List (Tmp × Value) → Act
  | [] => a
  | (d, v) :: s => putsOf (a.put (some d) v) s
/-- For all values of the slots of which the facts hold. -/
def DepAll (ds : List Tmp) (G : Nat → Value → Prop) (K : Act → Prop) : List Nat → Act → Prop
  | [], a => K a
  | j :: s, a => ∀ v, G j v → DepAll ds G K s (a.put (some (ds.getD j 0)) v)
/-- What is to be shown of the head's operations, one by one. -/
def MonoObs (P : Program) (W : World) (A : Act) (ds : List Tmp) (G : Nat → Value → World → Prop) : Nat → List Oper → List (List Nat) → Prop
  | i, o :: s, D :: Ds => (∀ w, Below W.heap.size W w → DepAll ds (fun j v => G j v w) (fun a => upon1 P w (G i) ((execOp a.eval o).run P w)) D A) ∧ MonoObs P W A ds G (i + 1) s Ds
  | _, _, _ => True

def monoB (l : List Oper) (n : Nat) (D : List (List Nat)) (N : Nat) : Bool :=
  Region.noSelect l.toArray && decide (n < l.length) && Region.sinkB .any l.toArray n && Region.chainB .any l.toArray n && decide (D.length = n) &&
  (List.range n).all (fun i => match l[i]? with
    | some o => o.guard.isNone && o.after.all (fun e => !Region.binds .any e || decide (e.on < i)) && (match o.dst with | some d => decide (d < N) | none => false) &&
        (D.getD i []).all (fun j => decide (j < n) && o.after.any (fun e => Region.binds .any e && e.on == j)) &&
        (o.looksAt l.toArray).all (fun t => !(dsOf l n).contains t || (D.getD i []).any (fun j => (dsOf l n).getD j 0 == t))
    | none => false) &&
  decide (dsOf l n).Nodup &&
  Region.seqB .any l.toArray (l.length - n) n (Array.ofFn (n := l.length) fun j => decide (j.1 < n))

section
variable {P : Program} {W : World} {A : Act} {l : List Oper} {n : Nat} {G : Nat → Value → World → Prop} {D : List (List Nat)}
structure MonoOk (l : List Oper) (n : Nat) (D : List (List Nat)) (N : Nat) : Prop where
  sel : Region.noSelect l.toArray = true
  lt : n < l.length
  sink : Region.sinkB .any l.toArray n = true
  chain : Region.chainB .any l.toArray n = true
  len : D.length = n
  op : ∀ i, i < n → ∃ o, l[i]? = some o ∧ o.guard = none ∧ (∀ e ∈ o.after, Region.binds .any e = true → e.on < i) ∧ o.dst = some ((dsOf l n).getD i 0) ∧ (dsOf l n).getD i 0 < N ∧
    (∀ j ∈ D.getD i [], j < n ∧ ∃ e ∈ o.after, Region.binds .any e = true ∧ e.on = j) ∧ (∀ t ∈ o.looksAt l.toArray, t ∈ dsOf l n → ∃ j ∈ D.getD i [], (dsOf l n).getD j 0 = t)
  nodup : (dsOf l n).Nodup
  seq : Region.seqB .any l.toArray (l.length - n) n (Array.ofFn (n := l.length) fun j => decide (j.1 < n)) = true

theorem dsOf_len (h : n ≤ l.length) : (dsOf l n).length = n := by
  simp [dsOf, h]
theorem monoB_spec {N : Nat} (h : monoB l n D N = true) : MonoOk l n D N := by
  simp only [monoB, Bool.and_eq_true, decide_eq_true_eq, List.all_eq_true, List.mem_range] at h
  obtain ⟨⟨⟨⟨⟨⟨⟨h1, h2⟩, h3⟩, h4⟩, h5⟩, h6⟩, h7⟩, h8⟩ := h
  refine ⟨h1, h2, h3, h4, h5, fun i hi => ?_, h7, h8⟩
  have := h6 i hi
  cases ho : l[i]? with
  | none => simp [ho] at this
  | some o =>
    simp only [ho, Bool.and_eq_true, Array.all_eq_true', Bool.or_eq_true, Bool.not_eq_true', decide_eq_true_eq, List.all_eq_true] at this
    obtain ⟨⟨⟨⟨a1, a2⟩, a3⟩, a4⟩, a5⟩ := this
    have hd : (dsOf l n).getD i 0 = o.dst.getD 0 := by
      simp [dsOf, List.getD_eq_getElem?_getD, List.getElem?_map, List.getElem?_take, hi, ho]
    cases hdd : o.dst with
    | none => simp [hdd] at a3
    | some d =>
      rw [hdd] at hd
      simp only [hdd, decide_eq_true_eq] at a3
      refine ⟨o, rfl, by simpa using a1, fun e he hb => (a2 e he).resolve_left (by simp [hb]), by rw [hd]; exact hdd, by rw [hd]; exact a3, fun j hj => ?_, fun t ht htd => ?_⟩
      · obtain ⟨b1, b2⟩ := a4 j hj
        simp only [Array.any_eq_true', Bool.and_eq_true, beq_iff_eq] at b2
        obtain ⟨e, he, hb, hon⟩ := b2
        exact ⟨b1, e, he, hb, hon⟩
      · have := (a5 t ht).resolve_left (by simpa using htd)
        simp only [List.any_eq_true, beq_iff_eq] at this
        exact this

/-- A slot holds a value of which the fact holds. -/
def HasOf (ds : List Tmp) (G : Nat → Value → World → Prop) (a : Act) (w : World) (j : Nat) : Prop := ∃ v, a.tmps[ds.getD j 0]? = some v ∧ G j v w
structure Outside (ds : List Tmp) (A a : Act) : Prop where
  defers : a.defers = A.defers
  size : a.tmps.size = A.tmps.size
  at_ : ∀ s, s ∉ ds → a.tmps[s]? = A.tmps[s]?

theorem putsOf_size (s : List (Tmp × Value)) : ∀ A, (putsOf A s).tmps.size = A.tmps.size := by
  induction s with
  | nil => exact fun _ => rfl
  | cons p s ih => exact fun A => (ih _).trans (put_size _ _ _)

theorem dep_spec {ds : List Tmp} {w : World} {a : Act} {K : Act → Prop} (Ds : List Nat) : ∀ (B : Act), DepAll ds (fun j v => G j v w) K Ds B → (∀ j ∈ Ds, HasOf ds G a w j) → B.tmps.size = a.tmps.size →
    ∃ B', K B' ∧ B'.tmps.size = a.tmps.size ∧ B'.defers = B.defers ∧ ∀ t, (a.tmps[t]? = B.tmps[t]? ∨ (t < a.tmps.size ∧ ∃ j ∈ Ds, ds.getD j 0 = t)) → a.tmps[t]? = B'.tmps[t]? := by
  induction Ds with
  | nil =>
    intro B h _ hs
    exact ⟨B, h, hs, rfl, fun t ht => ht.resolve_right (by rintro ⟨_, j, hj, _⟩; cases hj)⟩
  | cons j Ds ih =>
    intro B h hh hs
    obtain ⟨v, hv, hg⟩ := hh j (by simp)
    obtain ⟨B', h1, h2, hdf, h3⟩ := ih _ (h v hg) (fun j hj => hh j (by simp [hj])) (by rw [put_size]; exact hs)
    refine ⟨B', h1, h2, hdf.trans (put_defs _ _ _), fun t ht => h3 t ?_⟩
    by_cases e : ds.getD j 0 = t
    · left
      rw [← e, hv]
      have : ds.getD j 0 < a.tmps.size := (Array.getElem?_eq_some_iff.1 hv).1
      simp only [Act.put]
      rw [Array.getElem?_setIfInBounds_self_of_lt (by rw [hs]; exact this)]
    · rcases ht with ht | ⟨hlt, k, hk, hkt⟩
      · left
        rw [ht, put_ne _ _ (by simpa using e)]
      · right
        rcases List.mem_cons.1 hk with rfl | hk
        · exact absurd hkt e
        · exact ⟨hlt, k, hk, hkt⟩

theorem MonoObs.at {ds : List Tmp} : ∀ (s : List Oper) (Ds : List (List Nat)) (i : Nat), MonoObs P W A ds G i s Ds → ∀ k o, s[k]? = some o → k < Ds.length →
    ∀ w, Below W.heap.size W w → DepAll ds (fun j v => G j v w) (fun a => upon1 P w (G (i + k)) ((execOp a.eval o).run P w)) (Ds.getD k []) A := by
  intro s
  induction s with
  | nil => intro Ds i _ k o hk; simp at hk
  | cons x s ih =>
    intro Ds i h k o hk hlt
    cases Ds with
    | nil => simp at hlt
    | cons E Ds =>
      obtain ⟨h1, h2⟩ := h
      cases k with
      | zero =>
        have : x = o := by simpa using hk
        subst this
        simpa using h1
      | succ k =>
        have := ih Ds (i + 1) h2 k o (by simpa using hk) (by simpa using hlt)
        rw [show i + 1 + k = i + (k + 1) by omega] at this
        simpa using this

theorem nodup_inj {s : List Tmp} (h : s.Nodup) : ∀ {i j : Nat} (hi : i < s.length) (hj : j < s.length), s[i] = s[j] → i = j := by
  induction s with
  | nil => intro i j hi; simp at hi
  | cons x s ih =>
    rw [List.nodup_cons] at h
    intro i j hi hj e
    cases i with
    | zero =>
      cases j with
      | zero => rfl
      | succ j =>
        simp only [List.getElem_cons_zero, List.getElem_cons_succ] at e
        exact absurd (e ▸ List.getElem_mem _) h.1
    | succ i =>
      cases j with
      | zero =>
        simp only [List.getElem_cons_zero, List.getElem_cons_succ] at e
        exact absurd (e ▸ List.getElem_mem _) h.1
      | succ j =>
        simp only [List.getElem_cons_succ] at e
        rw [ih h.2 (by simpa using hi) (by simpa using hj) e]
def missing (ls : Array Bool) (n : Nat) : Nat := ((List.range n).filter fun j => !ls.getD j false).length
theorem missing_zero {ls : Array Bool} (h : missing ls n = 0) : ∀ j, j < n → ls.getD j false = true := by
  intro j hj
  cases hl : ls.getD j false with
  | true => rfl
  | false =>
    have : j ∈ (List.range n).filter fun j => !ls.getD j false := List.mem_filter.2 ⟨List.mem_range.2 hj, by simpa using hl⟩
    have := List.length_pos_of_mem this
    simp only [missing] at h
    omega
theorem missing_set {ls : Array Bool} {i : Nat} (hi : i < n) (hs : i < ls.size) (hf : ls.getD i false = false) : missing (ls.setIfInBounds i true) n + 1 = missing ls n := by
  refine count_less (dn := fun j => ls.getD j false) (dn' := fun j => (ls.setIfInBounds i true).getD j false) (m := i) (List.range n) List.nodup_range (List.mem_range.2 hi) hf (by simp [hs]) (fun j hj => ?_)
  exact getD_set_ne false (Ne.symm hj)

theorem mono_any {N g : Nat} {Q : Exit → Act → World → Prop} (ok : MonoOk l n D N) (hA : A.tmps.size = N) (hG : ∀ i v w w', G i v w → Below w.heap.size w w' → G i v w')
    (hobs : MonoObs P W A (dsOf l n) G 0 (l.take n) D)
    (htail : ∀ a w, Outside (dsOf l n) A a → (∀ j, j < n → HasOf (dsOf l n) G a w j) → Below W.heap.size W w → wpAny P .any l.toArray Q g (Array.ofFn (n := l.length) fun j => decide (j.1 < n)) a w) :
    ∀ (c : Nat) (ls : Array Bool) (a : Act) (w : World), missing ls n = c → HeadInv .any l.toArray n ls → (∀ j, j < n → ls.getD j false = true → HasOf (dsOf l n) G a w j) → Outside (dsOf l n) A a → Below W.heap.size W w →
      wpAny P .any l.toArray Q (g + c) ls a w := by
  have hlen := dsOf_len (Nat.le_of_lt ok.lt)
  intro c
  induction c with
  | zero =>
    intro ls a w hm inv hhas hout hW
    have hall := missing_zero hm
    have e : ls = Array.ofFn (n := l.length) fun j => decide (j.1 < n) := by
      apply Array.ext
      · simpa using inv.size
      · intro j hj hj'
        simp only [Array.getElem_ofFn]
        have hjl : j < l.length := by simpa using hj'
        by_cases hjn : j < n
        · have := hall j hjn
          rw [Array.getD_eq_getD_getElem?, Array.getElem?_eq_getElem hj] at this
          simpa [hjn] using this
        · have := inv.tail j (by omega) (by simpa using hjl)
          rw [Array.getD_eq_getD_getElem?, Array.getElem?_eq_getElem hj] at this
          simpa [hjn] using this
    rw [e]
    exact htail a w hout (fun j hj => hhas j hj (hall j hj)) hW
  | succ c ih =>
    intro ls a w hm inv hhas hout hW
    have hsz : ls.size = l.length := by simpa using inv.size
    -- the first that is missing may come up
    have hex : ∃ i, i < n ∧ ls.getD i false = false ∧ ∀ j, j < i → ls.getD j false = true := by
      have hne : ∃ i, i < n ∧ ls.getD i false = false := by
        have hpos : 0 < ((List.range n).filter fun j => !ls.getD j false).length := by
          have : missing ls n = c + 1 := hm
          simp only [missing] at this
          omega
        obtain ⟨i, hi⟩ := List.exists_mem_of_length_pos hpos
        obtain ⟨h1, h2⟩ := List.mem_filter.1 hi
        exact ⟨i, List.mem_range.1 h1, by simpa using h2⟩
      obtain ⟨i, hi, hf⟩ := hne
      induction i using Nat.strongRecOn with
      | _ i ih' =>
        by_cases hall : ∀ j, j < i → ls.getD j false = true
        · exact ⟨i, hi, hf, hall⟩
        · simp only [Classical.not_forall] at hall
          obtain ⟨j, hj, hjf⟩ := hall
          exact ih' j hj (by omega) (by simpa using hjf)
    obtain ⟨i0, hi0, hf0, hall0⟩ := hex
    have hr0 : i0 ∈ Region.ready .any l.toArray ls := by
      obtain ⟨o, ho, _, hback, _⟩ := ok.op i0 hi0
      exact mem_ready.2 ⟨getD_in (by rw [hsz]; have := ok.lt; omega) hf0, o, by simpa using ho, fun e he hb => hall0 _ (hback e he hb)⟩
    refine ⟨fun h0 => absurd hr0 (by rw [h0]; exact List.not_mem_nil), fun i hi => ?_⟩
    have hin : i < n := Nat.lt_of_not_le fun hge => tail_waits ok.sink ok.chain (by simpa using ok.lt) inv _ i0 rfl hi0 (mem_ready.1 hr0).1 i hge hi
    obtain ⟨hun, o', ho', hdep⟩ := mem_ready.1 hi
    obtain ⟨o, ho, hg, _, hd, hdN, hD, hlook⟩ := ok.op i hin
    have : o' = o := by
      have : l[i]? = some o' := by simpa using ho'
      rw [ho] at this
      exact (Option.some.inj this).symm
    subst this
    have hiF := getD_both hun
    have hobs' := MonoObs.at (l.take n) D 0 hobs i o' (by simp [hin, ho]) (by rw [ok.len]; exact hin) w hW
    rw [Nat.zero_add] at hobs'
    obtain ⟨B, hB, hBs, _, hBt⟩ := dep_spec (a := a) _ _ hobs' (fun j hj => by
      obtain ⟨h1, e, he, hb, hon⟩ := hD j hj
      exact hhas j h1 (by rw [← hon]; exact hdep e he hb)) hout.size.symm
    have hBs' : B.tmps.size = a.tmps.size := hBs
    have hexec : execOp a.eval o' = execOp B.eval o' := by
      refine execOp_congr o' (fun cs b => Region.noSelect_spec ok.sel i o' cs b ho') fun x hx => ?_
      cases x with
      | tmp t =>
        have ht : t ∈ o'.looksAt l.toArray := List.mem_append_left _ (List.mem_filterMap.2 ⟨.tmp t, by simpa using hx, rfl⟩)
        have : a.tmps[t]? = B.tmps[t]? := by
          by_cases hlt : t < a.tmps.size
          · refine hBt t ?_
            by_cases htd : t ∈ dsOf l n
            · exact .inr ⟨hlt, hlook t ht htd⟩
            · exact .inl (hout.at_ t htd)
          · have hn1 : a.tmps.size ≤ t := Nat.le_of_not_lt hlt
            have hn2 : B.tmps.size ≤ t := hBs' ▸ hn1
            rw [Array.getElem?_eq_none hn1, Array.getElem?_eq_none hn2]
        simp only [Act.eval, Array.getD_eq_getD_getElem?, this]
      | _ => rfl
    rw [← hexec] at hB
    unfold wpOp
    simp only [ho']
    rw [if_pos (by simp [Region.wanted, hg])]
    refine .inl (hB.wp fun v w' hgood hb => ?_)
    have hiN : i < ls.size := by rw [hsz]; have := ok.lt; omega
    have hm' := missing_set hin hiN hiF
    have hoth : ∀ j, j < n → j ≠ i → (dsOf l n).getD j 0 ≠ (dsOf l n).getD i 0 := by
      intro j hj hji e
      rw [List.getD_eq_getElem?_getD, List.getD_eq_getElem?_getD, List.getElem?_eq_getElem (by omega), List.getElem?_eq_getElem (by omega)] at e
      have e' : (dsOf l n)[j]'(by omega) = (dsOf l n)[i]'(by omega) := by simpa using e
      exact hji (nodup_inj ok.nodup (by omega) (by omega) e')
    refine ih _ _ w' (by omega) (inv.set hi hin) (fun j hj hl => ?_) ⟨by rw [put_defs]; exact hout.defers, by rw [put_size]; exact hout.size, fun s hs => ?_⟩ (hW.trans (hb.mono hW.size))
    · by_cases e : j = i
      · subst e
        refine ⟨v, ?_, hgood⟩
        rw [hd]
        simp only [Act.put]
        rw [Array.getElem?_setIfInBounds_self_of_lt (by rw [hout.size, hA]; exact hdN)]
      · rw [getD_set_ne false (Ne.symm e)] at hl
        obtain ⟨v', h1, h2⟩ := hhas j hj hl
        refine ⟨v', ?_, hG _ _ _ _ h2 hb⟩
        rw [put_ne _ _ (by rw [hd]; intro e'; exact hoth j hj e (Option.some.inj e').symm)]
        exact h1
    · rw [put_ne _ _ (by
        rw [hd]
        intro e'
        refine hs ?_
        rw [← Option.some.inj e']
        have hil : i < (dsOf l n).length := by omega
        rw [List.getD_eq_getElem?_getD, List.getElem?_eq_getElem hil]
        exact List.getElem_mem _)]
      exact hout.at_ s hs

/-- The law. -/
theorem region_mono {id : Nat} {Q : Exit → Act → World → Prop} (n : Nat) (D : List (List Nat)) (G : Nat → Value → World → Prop) (hm : P.follows .mixedOrders = true) (hB : monoB l n D A.tmps.size = true)
    (hG : ∀ i v w w', G i v w → Below w.heap.size w w' → G i v w') (hobs : MonoObs P W A (dsOf l n) G 0 (l.take n) D)
    (h : ∀ w1, Below W.heap.size W w1 → DepAll (dsOf l n) (fun j v => G j v w1) (fun a => wpList P l.toArray Q (l.drop n) a w1) (List.range n) A) : (Code.region id l.toArray true).wp P Q A W := by
  have ok := monoB_spec hB
  have hlen := dsOf_len (Nat.le_of_lt ok.lt)
  refine wp_region_any hm ?_
  have inv0 : HeadInv .any l.toArray n (Array.replicate l.toArray.size false) :=
    ⟨by simp, fun j oj _ hl => (by rw [getD_replicate_false] at hl; cases hl), fun t _ ht => getD_in (by simpa using ht) (getD_replicate_false _ _)⟩
  have hmis : missing (Array.replicate l.toArray.size false) n = n := by
    have : (List.range n).filter (fun j => !(Array.replicate l.toArray.size false).getD j false) = List.range n := by
      rw [List.filter_eq_self]
      intro j _
      rw [getD_replicate_false]
      rfl
    rw [missing, this, List.length_range]
  have R := mono_any (g := l.length - n) (Q := Q) ok rfl hG hobs (fun a w hout hhas hW => by
    obtain ⟨B, hB, hBs, hBd, hBt⟩ := dep_spec (a := a) _ _ (h w hW) (fun j hj => hhas j (List.mem_range.1 hj)) hout.size.symm
    have e : a = B := by
      obtain ⟨T, df⟩ := a
      obtain ⟨T', df'⟩ := B
      have h1 := hout.defers
      simp only at h1 hBd
      have : T = T' := by
        apply Array.ext_getElem?
        intro t
        by_cases hlt : t < T.size
        · refine hBt t ?_
          by_cases htd : t ∈ dsOf l n
          · right
            refine ⟨hlt, ?_⟩
            obtain ⟨j, hj, hjt⟩ := List.getElem_of_mem htd
            refine ⟨j, List.mem_range.2 (by omega), ?_⟩
            rw [List.getD_eq_getElem?_getD, List.getElem?_eq_getElem hj]
            exact hjt
          · exact .inl (hout.at_ t htd)
        · have h2 : T'.size = T.size := hBs
          rw [Array.getElem?_eq_none (by omega), Array.getElem?_eq_none (by omega)]
      rw [this, h1, hBd]
    rw [e]
    have hdl : (l.drop n).length = l.length - n := by simp
    have := wpAny_of_seq (md := .any) (Q' := Q) (l.drop n) n (Array.ofFn (n := l.length) fun j => decide (j.1 < n)) B w (fun j => by simp [List.getElem?_drop]) (by rw [hdl]; exact ok.seq) hB
    rwa [hdl] at this) n _ A { W with drawn := W.drawn + 1 } hmis inv0 (fun j _ hl => by rw [getD_replicate_false] at hl; cases hl) ⟨rfl, rfl, fun _ _ => rfl⟩ (Below.refl _ W).drew
  rwa [show l.length - n + n = l.toArray.size by simp; have := ok.lt; omega] at R
end
end Go.Proofs.YtnkojoajcdhngaaDoor

/- What the values of a drawn region's operations are ('region_mono'): small facts, each of which abides. -/
namespace Go.Proofs.YtnkojoajcdhngaaDoor
set_option linter.unusedVariables false
set_option linter.unusedSimpArgs false
set_option maxRecDepth 100000
open Go.RowKit

def Stable (g : Value → World → Prop) : Prop := ∀ v w w', g v w → Below w.heap.size w w' → g v w'
def IsV (x : Value) : Value → World → Prop := fun v _ => v = x
def BlkV (B : Nat) (cs : Array Value) (t : TypeId) (k : Nat) : Value → World → Prop := fun v w => ∃ g, v = .slice (some ⟨g, 0, none⟩) k k ∧ B ≤ g ∧ w.heap[g]? = some (.cells cs t (0, 0))
theorem IsV.stable (x : Value) : Stable (IsV x) := fun _ _ _ h _ => h
theorem BlkV.stable (B : Nat) (cs : Array Value) (t : TypeId) (k : Nat) : Stable (BlkV B cs t k) := fun _ _ _ ⟨g, e, hg, h⟩ hb => ⟨g, e, hg, (hb.block _ (blk_lt2 h)).trans h⟩
def pick (Gs : List (Value → World → Prop)) (i : Nat) (v : Value) (w : World) : Prop := (Gs.getD i fun _ _ => True) v w
theorem pick_stable {Gs : List (Value → World → Prop)} (h : ∀ g ∈ Gs, Stable g) : ∀ i v w w', pick Gs i v w → Below w.heap.size w w' → pick Gs i v w' := by
  intro i
  unfold pick
  by_cases hi : i < Gs.length
  · rw [show Gs.getD i (fun _ _ => True) = Gs[i] by simp [List.getD, hi]]
    exact h _ (List.getElem_mem hi)
  · rw [show Gs.getD i (fun _ _ => True) = fun _ _ => True by simp [List.getD, show Gs.length ≤ i by omega]]
    exact fun _ _ _ _ _ => trivial
theorem same_up {P : Program} {f : FuncId} {args : Array Value} {w : World} {x : Value} (h : Calls P f args w fun e w' => e = .returned x ∧ w = w') : Calls P f args w fun e w'' => ∃ v, e = .returned v ∧ v = x ∧ Below w.heap.size w w'' :=
  h.mono fun _ _ ⟨he, hw⟩ => ⟨x, he, rfl, hw ▸ Below.refl _ _⟩
theorem below_up {P : Program} {f : FuncId} {args : Array Value} {w : World} {x : Value} (h : Calls P f args w fun e w' => e = .returned x ∧ Below w.heap.size w w') : Calls P f args w fun e w'' => ∃ v, e = .returned v ∧ v = x ∧ Below w.heap.size w w'' :=
  h.mono fun _ _ ⟨he, hw⟩ => ⟨x, he, rfl, hw⟩
end Go.Proofs.YtnkojoajcdhngaaDoor
