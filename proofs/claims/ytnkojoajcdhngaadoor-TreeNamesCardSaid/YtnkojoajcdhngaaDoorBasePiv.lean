/- A region that draws its order, one of whose operations (the pivot) may be done but in a world that no pivot has touched: what holds ahead of it (I), what holds behind it (J); as BaseMono's law otherwise, with any preorder in the place of 'Below'. -/
import Derived.Test.YtnkojoajcdhngaaDoorMonoA
namespace Go.Proofs.YtnkojoajcdhngaaDoor
set_option linter.unusedVariables false
set_option linter.unusedSimpArgs false
set_option maxRecDepth 100000
open Go.RowKit

/-- What an operation comes to: a value and a world of which R holds. -/
def uponR (P : Program) (w : World) (R : Value → World → Prop) : Result Next → Prop
  | .ok (.value v) w' => R v w'
  | .ok (.enter f args) w' => Calls P f args w' (fun e w'' => ∃ v, e = .returned v ∧ R v w'')
  | _ => False
theorem uponR.wp {P : Program} {w : World} {R : Value → World → Prop} {o : Oper} {a : Act} {K : Act → World → Prop} {Q : Exit → Act → World → Prop} (h : uponR P w R ((execOp a.eval o).run P w))
    (hK : ∀ v w', R v w' → K (a.put o.dst v) w') : o.wp P a w K Q := by
  unfold Oper.wp
  generalize (execOp a.eval o).run P w = r at *
  cases r with
  | ok n w' =>
    cases n <;> simp only [uponR] at h <;> simp only [Oper.upon]
    case value v => exact hK v w' h
    case enter f args =>
      refine h.mono fun e w'' he => ?_
      obtain ⟨v, rfl, hg⟩ := he
      exact hK v w'' hg
  | halt x w' => simp only [uponR] at h
/-- What is to be shown of the head's operations, one by one. -/
def PivObs (P : Program) (E : World → World → Prop) (W : World) (A : Act) (ds : List Tmp) (G : Nat → Value → World → Prop) (p : Nat) (I : World → Prop) (J : Value → World → Prop) : Nat → List Oper → List (List Nat) → Prop
  | i, o :: s, D :: Ds => (∀ w, E W w → (i = p → I w) → DepAll ds (fun j v => G j v w) (fun a => uponR P w (fun v w' => (i = p → J v w') ∧ G i v w' ∧ E w w' ∧ (i ≠ p → (I w → I w') ∧ ∀ u, J u w → J u w')) ((execOp a.eval o).run P w)) D A) ∧ PivObs P E W A ds G p I J (i + 1) s Ds
  | _, _, _ => True
section
variable {P : Program} {E : World → World → Prop} {W : World} {A : Act} {l : List Oper} {n p : Nat} {G : Nat → Value → World → Prop} {I : World → Prop} {J : Value → World → Prop} {D : List (List Nat)}
theorem PivObs.at {ds : List Tmp} : ∀ (s : List Oper) (Ds : List (List Nat)) (i : Nat), PivObs P E W A ds G p I J i s Ds → ∀ k o, s[k]? = some o → k < Ds.length →
    ∀ w, E W w → (i + k = p → I w) → DepAll ds (fun j v => G j v w) (fun a => uponR P w (fun v w' => (i + k = p → J v w') ∧ G (i + k) v w' ∧ E w w' ∧ (i + k ≠ p → (I w → I w') ∧ ∀ u, J u w → J u w')) ((execOp a.eval o).run P w)) (Ds.getD k []) A := by
  intro s
  induction s with
  | nil => intro Ds i _ k o hk; simp at hk
  | cons x s ih =>
    intro Ds i h k o hk hlt
    cases Ds with
    | nil => simp at hlt
    | cons E Ds =>
      obtain ⟨h1, h2⟩ := h
      cases k with
      | zero =>
        have : x = o := by simpa using hk
        subst this
        simpa using h1
      | succ k =>
        have := ih Ds (i + 1) h2 k o (by simpa using hk) (by simpa using hlt)
        rw [show i + 1 + k = i + (k + 1) by omega] at this
        simpa using this
theorem piv_any {N g : Nat} {Q : Exit → Act → World → Prop} (ok : MonoOk l n D N) (hp : p < n) (hA : A.tmps.size = N) (hEt : ∀ a b c, E a b → E b c → E a c) (hG : ∀ i v w w', G i v w → E w w' → G i v w')
    (hobs : PivObs P E W A (dsOf l n) G p I J 0 (l.take n) D)
    (htail : ∀ a w, Outside (dsOf l n) A a → (∀ j, j < n → HasOf (dsOf l n) G a w j) → HasOf (dsOf l n) (fun _ => J) a w p → E W w → wpAny P .any l.toArray Q g (Array.ofFn (n := l.length) fun j => decide (j.1 < n)) a w) :
    ∀ (c : Nat) (ls : Array Bool) (a : Act) (w : World), missing ls n = c → HeadInv .any l.toArray n ls → (∀ j, j < n → ls.getD j false = true → HasOf (dsOf l n) G a w j) → (ls.getD p false = false → I w) → (ls.getD p false = true → HasOf (dsOf l n) (fun _ => J) a w p) → Outside (dsOf l n) A a → E W w →
      wpAny P .any l.toArray Q (g + c) ls a w := by
  have hlen := dsOf_len (Nat.le_of_lt ok.lt)
  intro c
  induction c with
  | zero =>
    intro ls a w hm inv hhas hI hJ hout hW
    have hall := missing_zero hm
    have e : ls = Array.ofFn (n := l.length) fun j => decide (j.1 < n) := by
      apply Array.ext
      · simpa using inv.size
      · intro j hj hj'
        simp only [Array.getElem_ofFn]
        have hjl : j < l.length := by simpa using hj'
        by_cases hjn : j < n
        · have := hall j hjn
          rw [Array.getD_eq_getD_getElem?, Array.getElem?_eq_getElem hj] at this
          simpa [hjn] using this
        · have := inv.tail j (by omega) (by simpa using hjl)
          rw [Array.getD_eq_getD_getElem?, Array.getElem?_eq_getElem hj] at this
          simpa [hjn] using this
    have hJ' := hJ (hall p hp)
    rw [e]
    exact htail a w hout (fun j hj => hhas j hj (hall j hj)) hJ' hW
  | succ c ih =>
    intro ls a w hm inv hhas hI hJ hout hW
    have hsz : ls.size = l.length := by simpa using inv.size
    have hex : ∃ i, i < n ∧ ls.getD i false = false ∧ ∀ j, j < i → ls.getD j false = true := by
      have hne : ∃ i, i < n ∧ ls.getD i false = false := by
        have hpos : 0 < ((List.range n).filter fun j => !ls.getD j false).length := by
          have : missing ls n = c + 1 := hm
          simp only [missing] at this
          omega
        obtain ⟨i, hi⟩ := List.exists_mem_of_length_pos hpos
        obtain ⟨h1, h2⟩ := List.mem_filter.1 hi
        exact ⟨i, List.mem_range.1 h1, by simpa using h2⟩
      obtain ⟨i, hi, hf⟩ := hne
      induction i using Nat.strongRecOn with
      | _ i ih' =>
        by_cases hall : ∀ j, j < i → ls.getD j false = true
        · exact ⟨i, hi, hf, hall⟩
        · simp only [Classical.not_forall] at hall
          obtain ⟨j, hj, hjf⟩ := hall
          exact ih' j hj (by omega) (by simpa using hjf)
    obtain ⟨i0, hi0, hf0, hall0⟩ := hex
    have hr0 : i0 ∈ Region.ready .any l.toArray ls := by
      obtain ⟨o, ho, _, hback, _⟩ := ok.op i0 hi0
      exact mem_ready.2 ⟨getD_in (by rw [hsz]; have := ok.lt; omega) hf0, o, by simpa using ho, fun e he hb => hall0 _ (hback e he hb)⟩
    refine ⟨fun h0 => absurd hr0 (by rw [h0]; exact List.not_mem_nil), fun i hi => ?_⟩
    have hin : i < n := Nat.lt_of_not_le fun hge => tail_waits ok.sink ok.chain (by simpa using ok.lt) inv _ i0 rfl hi0 (mem_ready.1 hr0).1 i hge hi
    obtain ⟨hun, o', ho', hdep⟩ := mem_ready.1 hi
    obtain ⟨o, ho, hg, _, hd, hdN, hD, hlook⟩ := ok.op i hin
    have : o' = o := by
      have : l[i]? = some o' := by simpa using ho'
      rw [ho] at this
      exact (Option.some.inj this).symm
    subst this
    have hiF := getD_both hun
    have hobs' := PivObs.at (l.take n) D 0 hobs i o' (by simp [hin, ho]) (by rw [ok.len]; exact hin) w hW
    rw [Nat.zero_add] at hobs'
    have hobs' := hobs' (fun e => hI (e ▸ hiF))
    obtain ⟨B, hB, hBs, _, hBt⟩ := dep_spec (a := a) _ _ hobs' (fun j hj => by
      obtain ⟨h1, e, he, hb, hon⟩ := hD j hj
      exact hhas j h1 (by rw [← hon]; exact hdep e he hb)) hout.size.symm
    have hBs' : B.tmps.size = a.tmps.size := hBs
    have hexec : execOp a.eval o' = execOp B.eval o' := by
      refine execOp_congr o' (fun cs b => Region.noSelect_spec ok.sel i o' cs b ho') fun x hx => ?_
      cases x with
      | tmp t =>
        have ht : t ∈ o'.looksAt l.toArray := List.mem_append_left _ (List.mem_filterMap.2 ⟨.tmp t, by simpa using hx, rfl⟩)
        have : a.tmps[t]? = B.tmps[t]? := by
          by_cases hlt : t < a.tmps.size
          · refine hBt t ?_
            by_cases htd : t ∈ dsOf l n
            · exact .inr ⟨hlt, hlook t ht htd⟩
            · exact .inl (hout.at_ t htd)
          · have hn1 : a.tmps.size ≤ t := Nat.le_of_not_lt hlt
            have hn2 : B.tmps.size ≤ t := hBs' ▸ hn1
            rw [Array.getElem?_eq_none hn1, Array.getElem?_eq_none hn2]
        simp only [Act.eval, Array.getD_eq_getD_getElem?, this]
      | _ => rfl
    rw [← hexec] at hB
    unfold wpOp
    simp only [ho']
    rw [if_pos (by simp [Region.wanted, hg])]
    refine .inl (hB.wp fun v w' hgood => ?_)
    obtain ⟨hJv, hgood, hb, hkeep⟩ := hgood
    have hiN : i < ls.size := by rw [hsz]; have := ok.lt; omega
    have hm' := missing_set hin hiN hiF
    have hself : (a.put o'.dst v).tmps[(dsOf l n).getD i 0]? = some v := by
      rw [hd]
      simp only [Act.put]
      rw [Array.getElem?_setIfInBounds_self_of_lt (by rw [hout.size, hA]; exact hdN)]
    have hoth : ∀ j, j < n → j ≠ i → (dsOf l n).getD j 0 ≠ (dsOf l n).getD i 0 := by
      intro j hj hji e
      rw [List.getD_eq_getElem?_getD, List.getD_eq_getElem?_getD, List.getElem?_eq_getElem (by omega), List.getElem?_eq_getElem (by omega)] at e
      have e' : (dsOf l n)[j]'(by omega) = (dsOf l n)[i]'(by omega) := by simpa using e
      exact hji (nodup_inj ok.nodup (by omega) (by omega) e')
    have hkeepT : ∀ j v', j < n → j ≠ i → a.tmps[(dsOf l n).getD j 0]? = some v' → (a.put o'.dst v).tmps[(dsOf l n).getD j 0]? = some v' := fun j v' hj e h1 => by
      rw [put_ne _ _ (by rw [hd]; intro e'; exact hoth j hj e (Option.some.inj e').symm)]
      exact h1
    refine ih _ _ w' (by omega) (inv.set hi hin) (fun j hj hl => ?_) (fun hl => ?_) (fun hl => ?_) ⟨by rw [put_defs]; exact hout.defers, by rw [put_size]; exact hout.size, fun s hs => ?_⟩ (hEt _ _ _ hW hb)
    · by_cases e : j = i
      · subst e
        exact ⟨v, hself, hgood⟩
      · rw [getD_set_ne false (Ne.symm e)] at hl
        obtain ⟨v', h1, h2⟩ := hhas j hj hl
        exact ⟨v', hkeepT j v' hj e h1, hG _ _ _ _ h2 hb⟩
    · by_cases e : i = p
      · subst e
        rw [show (ls.setIfInBounds i true).getD i false = true by simp [hiN]] at hl
        cases hl
      · rw [getD_set_ne false e] at hl
        exact (hkeep e).1 (hI hl)
    · by_cases e : i = p
      · have hJv' := hJv e
        subst e
        exact ⟨v, hself, hJv'⟩
      · rw [getD_set_ne false e] at hl
        obtain ⟨v', h1, h2⟩ := hJ hl
        exact ⟨v', hkeepT p v' hp (Ne.symm e) h1, (hkeep e).2 _ h2⟩
    · rw [put_ne _ _ (by
        rw [hd]
        intro e'
        refine hs ?_
        rw [← Option.some.inj e']
        have hil : i < (dsOf l n).length := by omega
        rw [List.getD_eq_getElem?_getD, List.getElem?_eq_getElem hil]
        exact List.getElem_mem _)]
      exact hout.at_ s hs
/-- The law. -/
theorem region_pivot {id : Nat} {Q : Exit → Act → World → Prop} (n p : Nat) (D : List (List Nat)) (E : World → World → Prop) (I : World → Prop) (J : Value → World → Prop) (G : Nat → Value → World → Prop) (hm : P.follows .mixedOrders = true) (hB : monoB l n D A.tmps.size = true) (hp : p < n)
    (hEt : ∀ a b c, E a b → E b c → E a c) (hE0 : E W W.drew) (hG : ∀ i v w w', G i v w → E w w' → G i v w') (hI : I W.drew) (hobs : PivObs P E W A (dsOf l n) G p I J 0 (l.take n) D)
    (h : ∀ w1, E W w1 → DepAll (dsOf l n) (fun j v => G j v w1 ∧ (j = p → J v w1)) (fun a => wpList P l.toArray Q (l.drop n) a w1) (List.range n) A) : (Code.region id l.toArray true).wp P Q A W := by
  have ok := monoB_spec hB
  have hlen := dsOf_len (Nat.le_of_lt ok.lt)
  refine wp_region_any hm ?_
  have inv0 : HeadInv .any l.toArray n (Array.replicate l.toArray.size false) :=
    ⟨by simp, fun j oj _ hl => (by rw [getD_replicate_false] at hl; cases hl), fun t _ ht => getD_in (by simpa using ht) (getD_replicate_false _ _)⟩
  have hmis : missing (Array.replicate l.toArray.size false) n = n := by
    have : (List.range n).filter (fun j => !(Array.replicate l.toArray.size false).getD j false) = List.range n := by
      rw [List.filter_eq_self]
      intro j _
      rw [getD_replicate_false]
      rfl
    rw [missing, this, List.length_range]
  have R := piv_any (g := l.length - n) (Q := Q) ok hp rfl hEt hG hobs (fun a w hout hhas hJp hW => by
    obtain ⟨B, hB, hBs, hBd, hBt⟩ := dep_spec (a := a) (G := fun j v w => G j v w ∧ (j = p → J v w)) (w := w) _ _ (h w hW) (fun j hj => by
      obtain ⟨v, h1, h2⟩ := hhas j (List.mem_range.1 hj)
      refine ⟨v, h1, h2, fun e => ?_⟩
      subst e
      obtain ⟨v', h3, h4⟩ := hJp
      rw [h1] at h3
      exact (Option.some.inj h3) ▸ h4) hout.size.symm
    have e : a = B := by
      obtain ⟨T, df⟩ := a
      obtain ⟨T', df'⟩ := B
      have h1 := hout.defers
      simp only at h1 hBd
      have : T = T' := by
        apply Array.ext_getElem?
        intro t
        by_cases hlt : t < T.size
        · refine hBt t ?_
          by_cases htd : t ∈ dsOf l n
          · right
            refine ⟨hlt, ?_⟩
            obtain ⟨j, hj, hjt⟩ := List.getElem_of_mem htd
            refine ⟨j, List.mem_range.2 (by omega), ?_⟩
            rw [List.getD_eq_getElem?_getD, List.getElem?_eq_getElem hj]
            exact hjt
          · exact .inl (hout.at_ t htd)
        · have h2 : T'.size = T.size := hBs
          rw [Array.getElem?_eq_none (by omega), Array.getElem?_eq_none (by omega)]
      rw [this, h1, hBd]
    rw [e]
    have hdl : (l.drop n).length = l.length - n := by simp
    have := wpAny_of_seq (md := .any) (Q' := Q) (l.drop n) n (Array.ofFn (n := l.length) fun j => decide (j.1 < n)) B w (fun j => by simp [List.getElem?_drop]) (by rw [hdl]; exact ok.seq) hB
    rwa [hdl] at this) n _ A W.drew hmis inv0 (fun j _ hl => by rw [getD_replicate_false] at hl; cases hl) (fun _ => hI) (fun hl => by rw [getD_replicate_false] at hl; cases hl) ⟨rfl, rfl, fun _ _ => rfl⟩ hE0
  rwa [show l.length - n + n = l.toArray.size by simp; have := ok.lt; omega] at R
end
end Go.Proofs.YtnkojoajcdhngaaDoor
