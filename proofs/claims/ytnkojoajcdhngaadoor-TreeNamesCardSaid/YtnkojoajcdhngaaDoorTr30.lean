/- Layer 8: Put: the rows of two trees in one. -/
import Derived.Test.YtnkojoajcdhngaaDoorTr28
import Derived.Test.YtnkojoajcdhngaaDoorTr29
import Derived.Test.YtnkojoajcdhngaaDoorTrP4
namespace Go.Proofs.YtnkojoajcdhngaaDoor
set_option linter.unusedVariables false
set_option linter.unusedSimpArgs false
set_option maxRecDepth 100000
open Go.RowKit Go.Shelf Go.Lib
attribute [local go_sem] Oper.semAt_some
set_option maxRecDepth 100000
set_option maxHeartbeats 16000000

theorem info_ints : (Tryd.prog.info? 37).map (fun i => (i.zero, i.size, i.bytes)) = some (some (.slice none 0 0), 1, 24) := by kernel_rfl
section
variable {ops : Array Oper} {rest : List Oper} {o : Oper} {a : Act} {Q : Exit → Act → World → Prop} {w : World}
theorem append_row (hgd : o.guard = none) (s x : Operand) (ho : o.op = .call { callee := .builtin .append, args := #[s, x], argTypes := #[79, 79] }) (base : Nat) (v : Value) (n : Nat) (l : List Value) (u : Value) (g : Nat)
    (hs : a.eval s = v) (hx : a.eval x = .slice (some ⟨g, 0, none⟩) 1 1) (hown : w.ownsRow base 37 1 v n l) (h0 : w.cell? ⟨g, 0, none⟩ = some u) (h1 : u.oneCell' = true) (hn : n ≤ 1000000) (hbase : base ≤ w.heap.size)
    (h : ∀ v' w', w'.ownsRow base 37 1 v' (n + 1) (l ++ [u]) → w.grownBy w' v.ownBlock → (∀ k, v'.ownBlock = some k → v.ownBlock = some k ∨ w.heap.size ≤ k) → wpList Tryd.prog ops Q rest (a.put o.dst v') w') : wpList Tryd.prog ops Q (o :: rest) a w := by
  obtain ⟨i0, hi, hz0, hz1, hz2⟩ := info_parts info_ints
  refine wpList_plain hgd fun K hK' => ?_
  obtain ⟨v', w', hrun, r1, r2, r3⟩ := run_append_new (P := Tryd.prog) w base 79 o.type 37 i0 _ 1 24 Tryd.underlying79 hi hz0 hz1 hz2 rfl (by decide) v n l hown ⟨g, 0, none⟩ 1 1 [u] rfl (fun j x hj => by
    match j, hj with
    | 0, hj => simp at hj; subst hj; simpa [Addr.add] using h0
    | j + 1, hj => simp at hj) (by simpa using h1) (by unfold maxLen; omega) (by omega) hbase
  have hf := hK' _ _ (h v' w' r1 r2 r3)
  unfold Oper.wp
  simp [execOp, ho, resolve, invoke, builtin, hs, hx, hrun, Result.andThen]
  exact hf
end
/-- A row is written over in its place. -/
theorem Rws.upd {base gl : Nat} {K : Nat → List Int} {vs : List Value} {w w' : World} (h : Rws base gl K vs w) (i : Nat) (v : Value) (k : List Int) (hv : vs[i]? = some v) (hg : w.grownBy w' v.ownBlock) (ho : w'.ownsRow base 3 1 v k.length (ints k)) :
    Rws base gl (fun j => if j = i then k else K j) vs w' := by
  have hgl : v.ownBlock ≠ some gl := fun e => h.ne i v gl hv e rfl
  refine ⟨h.hd.same (hg.block gl h.lt (fun e => hgl e.symm)), fun j u hu => ?_, h.ap, h.ne, h.ge⟩
  by_cases e : j = i
  · subst e
    rw [hv] at hu
    cases hu
    rw [if_pos rfl]
    exact ho
  · rw [if_neg e]
    refine (h.ow j u hu).kept hg ?_
    cases hub : u.ownBlock with
    | none => exact .inl rfl
    | some b => exact .inr fun e2 => h.ap j i u v b hu hv e hub e2.symm
theorem Rws.other {base gl b2 n2 : Nat} {K : Nat → List Int} {vs xs : List Value} {l : Value} {w w' : World} (h : Rws base gl K vs w) (hl : w.ownsRow b2 37 1 l n2 xs) (hg : w.grownBy w' l.ownBlock) (hne : l.ownBlock ≠ some gl) : Rws base gl K vs w' :=
  ⟨h.hd.same (hg.block gl h.lt (fun e => hne e.symm)), fun j u hu => own_other (h.ow j u hu) hl (by decide) hg, h.ap, h.ne, h.ge⟩
/-- Between two rows of the second tree. -/
structure PuS (W : World) (bt gt nn : Nat) (Ks Kt : Nat → List Int) (vs us : List Value) (i : Nat) (Al : Option Addr) (cl : Nat) (wr : World) : Prop where
  bl : Below W.heap.size W wr
  rs : ∀ (j : Nat) (v : Value), vs[j]? = some v → wr.ownsRow W.heap.size 3 1 v (Ks j).length (ints (Ks j))
  rt : Rws bt gt (fun j => if j < i then (Kt j).map (· + (nn : Int)) else Kt j) us wr
  lo : wr.ownsRow W.heap.size 37 1 (.slice Al (nn + i) cl) (nn + i) (vs ++ us.take i)
  lg : ∀ k, (Value.slice Al 0 0).ownBlock = some k → k ≠ gt
/-- A row's numbers are told. -/
theorem PuS.row {W : World} {bt gt nn : Nat} {Ks Kt : Nat → List Int} {vs us : List Value} {i : Nat} {Al : Option Addr} {cl : Nat} {wr w2 : World} {v : Value} (h : PuS W bt gt nn Ks Kt vs us i Al cl wr) (hbt : W.heap.size ≤ bt) (hvs : ∀ (j : Nat) (v : Value) (k : Nat), vs[j]? = some v → v.ownBlock = some k → k < bt) (hv : us[i]? = some v)
    (hg : wr.grownBy w2 v.ownBlock) (ho : w2.ownsRow bt 3 1 v ((Kt i).map (· + (nn : Int))).length (ints ((Kt i).map (· + (nn : Int))))) :
    Below W.heap.size W w2 ∧ (∀ (j : Nat) (v : Value), vs[j]? = some v → w2.ownsRow W.heap.size 3 1 v (Ks j).length (ints (Ks j))) ∧ Rws bt gt (fun j => if j < i + 1 then (Kt j).map (· + (nn : Int)) else Kt j) us w2 ∧ w2.ownsRow W.heap.size 37 1 (.slice Al (nn + i) cl) (nn + i) (vs ++ us.take i) := by
  have hov := h.rt.ow i v hv
  have hge := own_ge hov
  refine ⟨h.bl.grown hg h.bl.size (fun k hk => by have := hge k hk; omega), fun j u hu => ?_, ?_, own_other h.lo hov (by decide) hg⟩
  · refine (h.rs j u hu).kept hg ?_
    cases hub : u.ownBlock with
    | none => exact .inl rfl
    | some b => exact .inr fun e => by have := hvs j u b hu hub; have := hge b e.symm; omega
  · have := h.rt.upd i v ((Kt i).map (· + (nn : Int))) hv hg ho
    have e : (fun j => if j = i then (Kt i).map (· + (nn : Int)) else if j < i then (Kt j).map (· + (nn : Int)) else Kt j) = fun j => if j < i + 1 then (Kt j).map (· + (nn : Int)) else Kt j := by
      funext j
      by_cases e : j = i
      · subst e
        rw [if_pos rfl, if_pos (by omega)]
      · rw [if_neg e]
        by_cases e2 : j < i
        · rw [if_pos e2, if_pos (by omega)]
        · rw [if_neg e2, if_neg (by omega)]
    rw [e] at this
    exact this
/-- .. and the row is put behind the others. -/
theorem PuS.step {W : World} {bt gt nn : Nat} {Ks Kt : Nat → List Int} {vs us : List Value} {i : Nat} {Al A' : Option Addr} {cl c' : Nat} {w2 w3 : World} {v : Value} {o : Obj} (hbl : Below W.heap.size W w2) (hrs : ∀ (j : Nat) (v : Value), vs[j]? = some v → w2.ownsRow W.heap.size 3 1 v (Ks j).length (ints (Ks j)))
    (hrt : Rws bt gt (fun j => if j < i + 1 then (Kt j).map (· + (nn : Int)) else Kt j) us w2) (hlo : w2.ownsRow W.heap.size 37 1 (.slice Al (nn + i) cl) (nn + i) (vs ++ us.take i)) (hlg : ∀ k, (Value.slice Al 0 0).ownBlock = some k → k ≠ gt) (hv : us[i]? = some v)
    (hg : (w2.alloc o).grownBy w3 (Value.slice Al (nn + i) cl).ownBlock) (ho : w3.ownsRow W.heap.size 37 1 (.slice A' (nn + i + 1) c') (nn + i + 1) (vs ++ us.take i ++ [v])) (hk : ∀ k, (Value.slice A' (nn + i + 1) c').ownBlock = some k → (Value.slice Al (nn + i) cl).ownBlock = some k ∨ (w2.alloc o).heap.size ≤ k) :
    PuS W bt gt nn Ks Kt vs us (i + 1) A' c' w3 := by
  have hlg' : (Value.slice Al (nn + i) cl).ownBlock ≠ some gt := fun e => hlg gt (by rw [own_slice]; exact e) rfl
  have hbs := hbl.size
  refine ⟨(hbl.alloc hbs o).grown hg (by simp; omega) (own_ge hlo), fun j u hu => own_other ((hrs j u hu).alloc o) (hlo.alloc o) (by decide) hg, (hrt.on ((Below.refl _ _).alloc (Nat.le_refl _) o)).other (hlo.alloc o) hg hlg', ?_, fun k hk2 => ?_⟩
  · have hi := (List.getElem?_eq_some_iff.1 hv)
    obtain ⟨hil, e⟩ := hi
    rw [List.take_succ_eq_append_getElem hil, e, ← List.append_assoc]
    exact ho
  · rcases hk k (by rw [own_slice]; exact hk2) with h1 | h1
    · exact hlg k (by rw [own_slice]; exact h1)
    · have := hrt.lt
      simp at h1
      omega
/-- All rows in one. -/
theorem PuS.fin {W : World} {bt gt nn : Nat} {Ks Kt : Nat → List Int} {vs us : List Value} {gL cl : Nat} {wr : World} (h : PuS W bt gt nn Ks Kt vs us us.length (some ⟨gL, 0, none⟩) cl wr) (hbt : W.heap.size ≤ bt) (hvl : vs.length = nn) (hvs : ∀ (j : Nat) (v : Value) (k : Nat), vs[j]? = some v → v.ownBlock = some k → k < bt)
    (hap : ∀ (i j : Nat) (v u : Value) (b : Nat), vs[i]? = some v → vs[j]? = some u → i ≠ j → v.ownBlock = some b → u.ownBlock ≠ some b) : Rws W.heap.size gL (catK nn Ks Kt) (vs ++ us) wr := by
  have hlo := h.lo
  rw [List.take_length] at hlo
  have hus : ∀ (j : Nat) (u : Value) (k : Nat), us[j]? = some u → u.ownBlock = some k → bt ≤ k := fun j u k hu hk => own_ge (h.rt.ow j u hu) k hk
  refine ⟨?_, fun j u hu => ?_, fun i j v u b hv hu hne hb => ?_, fun j v b hv hb => ?_, ?_⟩
  · rcases hlo.2 with ⟨e, _⟩ | ⟨g, cap, cur, e, hb, hh, hn, hm, hs, ht⟩
    · cases e
    · injection e with e1
      injection e1 with e1
      injection e1 with e1
      subst e1
      refine ⟨cur, hh, ?_⟩
      rw [Nat.mul_one] at ht
      rw [List.length_append, hvl]
      exact ht
  · unfold catK
    by_cases hj : j < vs.length
    · rw [List.getElem?_append_left hj] at hu
      rw [if_pos (by omega)]
      exact h.rs j u hu
    · rw [List.getElem?_append_right (by omega), hvl] at hu
      rw [if_neg (by omega)]
      have hjl := (List.getElem?_eq_some_iff.1 hu).1
      have := h.rt.ow (j - nn) u hu
      simp only [if_pos hjl] at this
      exact own_mono this hbt
  · by_cases hi : i < vs.length
    · rw [List.getElem?_append_left hi] at hv
      by_cases hj : j < vs.length
      · rw [List.getElem?_append_left hj] at hu
        exact hap i j v u b hv hu hne hb
      · rw [List.getElem?_append_right (by omega)] at hu
        intro e
        have h1 := hvs i v b hv hb
        have h2 := hus _ u b hu e
        omega
    · rw [List.getElem?_append_right (by omega)] at hv
      by_cases hj : j < vs.length
      · rw [List.getElem?_append_left hj] at hu
        intro e
        have h1 := hvs j u b hu e
        have h2 := hus _ v b hv hb
        omega
      · rw [List.getElem?_append_right (by omega)] at hu
        exact h.rt.ap _ _ v u b hv hu (by omega) hb
  · intro e
    subst e
    by_cases hj : j < vs.length
    · rw [List.getElem?_append_left hj] at hv
      exact own_ne (h.rs j v hv) hlo (by decide) b hb rfl
    · rw [List.getElem?_append_right (by omega)] at hv
      exact own_ne (h.rt.ow _ v hv) hlo (by decide) b hb rfl
  · exact own_ge hlo gL rfl
end Go.Proofs.YtnkojoajcdhngaaDoor
