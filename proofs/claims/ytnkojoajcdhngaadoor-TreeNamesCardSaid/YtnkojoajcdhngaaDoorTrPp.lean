/- Layer 8: plain: what 'parents' has shown. -/
import Derived.Test.YtnkojoajcdhngaaDoorTrAc
namespace Go.Proofs.YtnkojoajcdhngaaDoor
set_option linter.unusedVariables false
set_option linter.unusedSimpArgs false
set_option maxRecDepth 100000

/-- What holds while edges are gone through: E the edges so far. -/
structure EInv (n : Nat) (E : List (Nat × Int)) (U D : List Int) : Prop where
  lu : U.length = n
  ld : D.length = n
  e : ∀ p k, (p, k) ∈ E → (p : Int) < k ∧ k < n ∧ U.getD k.toNat 0 = p ∧ D.getD k.toNat 0 = D.getD p 0 + 1 ∧ 1 ≤ D.getD p 0
  nd : (E.map (·.2)).Nodup
  seen : ∀ j, j < n → D.getD j 0 ≠ 0 → j = 0 ∨ ∃ p, (p, (j : Int)) ∈ E
  ge : ∀ j, 0 ≤ D.getD j 0
  d0 : D.getD 0 0 = 1
  u0 : U.getD 0 0 = -1
theorem getD_set {l : List Int} {i j : Nat} {v : Int} : (l.set i v).getD j 0 = if i = j ∧ i < l.length then v else l.getD j 0 := by
  simp only [List.getD_eq_getElem?_getD, List.getElem?_set]
  by_cases h : i = j
  · subst h
    by_cases h2 : i < l.length
    · simp [h2]
    · simp [h2]
  · simp [h]
theorem EInv.add {n : Nat} {E : List (Nat × Int)} {U D : List Int} (h : EInv n E U D) {i : Nat} {k : Int} (hi : 1 ≤ D.getD i 0) (h1 : (i : Int) < k) (h2 : k < n) (h3 : D.getD k.toNat 0 = 0) :
    EInv n (E ++ [(i, k)]) (U.set k.toNat i) (D.set k.toNat (D.getD i 0 + 1)) := by
  have hk0 : 0 ≤ k := by omega
  have hkn : k.toNat < n := by omega
  have hne : ∀ j, D.getD j 0 ≠ 0 → k.toNat ≠ j := fun j hj e => hj (by rw [← e]; exact h3)
  have hD : ∀ j, D.getD j 0 ≠ 0 → (D.set k.toNat (D.getD i 0 + 1)).getD j 0 = D.getD j 0 := fun j hj => by rw [getD_set, if_neg (fun e => hne j hj e.1)]
  have hU : ∀ j, D.getD j 0 ≠ 0 → (U.set k.toNat i).getD j 0 = U.getD j 0 := fun j hj => by rw [getD_set, if_neg (fun e => hne j hj e.1)]
  refine ⟨by rw [List.length_set, h.lu], by rw [List.length_set, h.ld], fun p q hpq => ?_, ?_, fun j hj hjd => ?_, fun j => ?_, ?_, ?_⟩
  · rcases List.mem_append.1 hpq with hpq | hpq
    · obtain ⟨e1, e2, e3, e4, e5⟩ := h.e p q hpq
      have q0 : D.getD q.toNat 0 ≠ 0 := by omega
      have p0 : D.getD p 0 ≠ 0 := by omega
      exact ⟨e1, e2, by rw [hU _ q0]; exact e3, by rw [hD _ q0, hD _ p0]; exact e4, by rw [hD _ p0]; exact e5⟩
    · simp only [List.mem_singleton, Prod.mk.injEq] at hpq
      obtain ⟨rfl, rfl⟩ := hpq
      have p0 : D.getD p 0 ≠ 0 := by omega
      refine ⟨h1, h2, ?_, ?_, by rw [hD _ p0]; exact hi⟩
      · rw [getD_set, if_pos ⟨rfl, by rw [h.lu]; exact hkn⟩]
      · rw [hD _ p0, getD_set, if_pos ⟨rfl, by rw [h.ld]; exact hkn⟩]
  · rw [List.map_append, List.nodup_append]
    refine ⟨h.nd, by simp, fun a ha b hb => ?_⟩
    simp only [List.map_cons, List.map_nil, List.mem_singleton] at hb
    subst hb
    rintro rfl
    obtain ⟨⟨p, q⟩, hq, rfl⟩ := List.mem_map.1 ha
    have := h.e p q hq
    simp only at h3
    omega
  · by_cases e : k.toNat = j
    · right
      refine ⟨i, List.mem_append_right _ ?_⟩
      rw [← e, Int.toNat_of_nonneg hk0]
      exact List.mem_singleton.2 rfl
    · rw [getD_set, if_neg (fun x => e x.1)] at hjd
      rcases h.seen j hj hjd with h5 | ⟨p, hp⟩
      · exact .inl h5
      · exact .inr ⟨p, List.mem_append_left _ hp⟩
  · rw [getD_set]
    split
    · omega
    · exact h.ge j
  · rw [hD 0 (by rw [h.d0]; decide)]
    exact h.d0
  · rw [hU 0 (by rw [h.d0]; decide)]
    exact h.u0
theorem ppK_inv {n i : Nat} : ∀ (ks : List Int) (E : List (Nat × Int)) (U D U' D' : List Int), EInv n E U D → 1 ≤ D.getD i 0 → ppK n i ks U D = some (U', D') → EInv n (E ++ ks.map fun k => (i, k)) U' D' ∧ (∀ j, D.getD j 0 ≠ 0 → D'.getD j 0 = D.getD j 0)
  | [], E, U, D, U', D', h, _, he => by
    simp only [ppK, Option.some.injEq, Prod.mk.injEq] at he
    obtain ⟨rfl, rfl⟩ := he
    simpa using h
  | k :: ks, E, U, D, U', D', h, hi, he => by
    rw [ppK] at he
    split at he
    · cases he
    · rename_i hc
      have h1 : (i : Int) < k := by omega
      have h2 : k < n := by omega
      have h3 : D.getD k.toNat 0 = 0 := by
        by_cases e : D.getD k.toNat 0 = 0
        · exact e
        · exact absurd (.inr (.inr e)) hc
      have h4 := h.add hi h1 h2 h3
      have hkn : k.toNat ≠ i := fun e => by rw [e] at h3; omega
      have hi' : (D.set k.toNat (D.getD i 0 + 1)).getD i 0 = D.getD i 0 := by rw [getD_set, if_neg (fun e => hkn e.1)]
      obtain ⟨h5, h6⟩ := ppK_inv ks _ _ _ U' D' h4 (by rw [hi']; exact hi) he
      refine ⟨by simpa using h5, fun j hj => ?_⟩
      have hkj : k.toNat ≠ j := fun e => hj (by rw [← e]; exact h3)
      have hj' : (D.set k.toNat (D.getD i 0 + 1)).getD j 0 = D.getD j 0 := by rw [getD_set, if_neg (fun e => hkj e.1)]
      rw [h6 j (by rw [hj']; exact hj), hj']
/-- The edges of nodes that are numbered from i on. -/
def edgesF : Nat → List Nd → List (Nat × Int)
  | _, [] => []
  | i, nd :: r => (nd.kids.map fun k => (i, k)) ++ edgesF (i + 1) r
theorem ppF_inv {n : Nat} : ∀ (r : List Nd) (i : Nat) (E : List (Nat × Int)) (U D U' D' : List Int), EInv n E U D → ppF n i r U D = some (U', D') →
    EInv n (E ++ edgesF i r) U' D' ∧ (∀ j, D.getD j 0 ≠ 0 → D'.getD j 0 = D.getD j 0) ∧ ∀ j (h : j < r.length), 1 ≤ D'.getD (i + j) 0 ∧ D'.getD (i + j) 0 ≤ 64 ∧ mayB r[j] = true
  | [], i, E, U, D, U', D', h, he => by
    simp only [ppF, Option.some.injEq, Prod.mk.injEq] at he
    obtain ⟨rfl, rfl⟩ := he
    refine ⟨by simpa [edgesF] using h, fun _ _ => rfl, fun j hj => by simp at hj⟩
  | nd :: r, i, E, U, D, U', D', h, he => by
    rw [ppF] at he
    split at he
    · cases he
    · rename_i hc
      have g0 := h.ge i
      have hd0 : D.getD i 0 ≠ 0 := fun e => hc (.inl e)
      have hd1 : D.getD i 0 ≤ 64 := by
        by_cases e : 64 < D.getD i 0
        · exact absurd (.inr (.inl e)) hc
        · omega
      have hm : mayB nd = true := by
        by_cases e : mayB nd = false
        · exact absurd (.inr (.inr e)) hc
        · simpa using e
      cases hp : ppK n i nd.kids U D with
      | none => rw [hp] at he; cases he
      | some x =>
        obtain ⟨U1, D1⟩ := x
        rw [hp] at he
        obtain ⟨a1, a2⟩ := ppK_inv nd.kids E U D U1 D1 h (by omega) hp
        obtain ⟨b1, b2, b3⟩ := ppF_inv r (i + 1) _ U1 D1 U' D' a1 he
        refine ⟨by simpa [edgesF] using b1, fun j hj => by rw [b2 j (by rw [a2 j hj]; exact hj), a2 j hj], fun j hj => ?_⟩
        cases j with
        | zero =>
          have e1 : D'.getD (i + 0) 0 = D.getD i 0 := by
            show D'.getD i 0 = _
            rw [b2 i (by rw [a2 i hd0]; exact hd0), a2 i hd0]
          rw [e1]
          exact ⟨by omega, hd1, hm⟩
        | succ j =>
          have := b3 j (by simpa using hj)
          rw [show i + (j + 1) = i + 1 + j by omega]
          exact this
theorem mem_edgesF {p : Nat} {k : Int} : ∀ (r : List Nd) (i : Nat), (p, k) ∈ edgesF i r ↔ ∃ j, ∃ h : j < r.length, p = i + j ∧ k ∈ r[j].kids
  | [], i => by simp [edgesF]
  | nd :: r, i => by
    rw [edgesF, List.mem_append, mem_edgesF r (i + 1)]
    constructor
    · rintro (h | ⟨j, h, rfl, hk⟩)
      · obtain ⟨a, ha, e⟩ := List.mem_map.1 h
        cases e
        exact ⟨0, by simp, rfl, ha⟩
      · exact ⟨j + 1, by simpa using h, by omega, hk⟩
    · rintro ⟨j, h, rfl, hk⟩
      cases j with
      | zero => exact .inl (List.mem_map.2 ⟨k, hk, rfl⟩)
      | succ j => exact .inr ⟨j, by simpa using h, by omega, hk⟩
theorem nodup_edgesF : ∀ (r : List Nd) (i : Nat), ((edgesF i r).map (·.2)).Nodup → ∀ j (h : j < r.length), r[j].kids.Nodup
  | [], _, _, j, h => by simp at h
  | nd :: r, i, hn, j, h => by
    rw [edgesF, List.map_append, List.nodup_append] at hn
    cases j with
    | zero =>
      have h1 := hn.1
      rw [List.map_map, show ((fun x : Nat × Int => x.2) ∘ fun k => (i, k)) = id from rfl, List.map_id] at h1
      exact h1
    | succ j => exact nodup_edgesF r (i + 1) hn.2.1 j (by simpa using h)
/-- A spec that may be: parents U and depths D. -/
structure TreeOk (L : List Nd) (U D : List Int) : Prop where
  n1 : 1 ≤ L.length
  n2 : L.length ≤ 1024
  lu : U.length = L.length
  ld : D.length = L.length
  dep : ∀ i, i < L.length → 1 ≤ D.getD i 0 ∧ D.getD i 0 ≤ 64
  may : ∀ i (h : i < L.length), mayB L[i] = true
  kid : ∀ i (h : i < L.length) k, k ∈ L[i].kids → (i : Int) < k ∧ k < L.length ∧ U.getD k.toNat 0 = i ∧ D.getD k.toNat 0 = D.getD i 0 + 1
  nd : ∀ i (h : i < L.length), L[i].kids.Nodup
  par : ∀ j, 0 < j → j < L.length → ∃ p, ∃ h : p < L.length, p < j ∧ (j : Int) ∈ L[p].kids ∧ U.getD j 0 = p
  d0 : D.getD 0 0 = 1
  u0 : U.getD 0 0 = -1
theorem parE_ok {L : List Nd} {U D : List Int} (h : parE L = some (U, D)) : TreeOk L U D := by
  unfold parE at h
  split at h
  · cases h
  · rename_i hc
    have h1 : 1 ≤ L.length := by omega
    have h0 : EInv L.length [] ((List.replicate L.length 0).set 0 (-1)) ((List.replicate L.length 0).set 0 1) := by
      refine ⟨by simp, by simp, fun _ _ hm => by simp at hm, by simp, fun j hj hd => ?_, fun j => ?_, ?_, ?_⟩
      · by_cases e : j = 0
        · exact .inl e
        · rw [getD_set, if_neg (fun x => e x.1.symm)] at hd
          simp [List.getD_eq_getElem?_getD, List.getElem?_replicate, hj] at hd
      · rw [getD_set]
        split
        · decide
        · simp only [List.getD_eq_getElem?_getD, List.getElem?_replicate]
          split <;> simp
      · rw [getD_set, if_pos ⟨rfl, by rw [List.length_replicate]; omega⟩]
      · rw [getD_set, if_pos ⟨rfl, by rw [List.length_replicate]; omega⟩]
    obtain ⟨a, _, c⟩ := ppF_inv L 0 [] _ _ U D h0 h
    rw [List.nil_append] at a
    refine ⟨h1, by omega, a.lu, a.ld, fun i hi => ⟨by simpa using (c i hi).1, by simpa using (c i hi).2.1⟩, fun i hi => (c i hi).2.2, fun i hi k hk => ?_, nodup_edgesF L 0 a.nd, fun j hj hjn => ?_, a.d0, a.u0⟩
    · have := a.e i k ((mem_edgesF L 0).2 ⟨i, hi, by omega, hk⟩)
      exact ⟨this.1, this.2.1, this.2.2.1, this.2.2.2.1⟩
    · have hd := (c j hjn).1
      rw [Nat.zero_add] at hd
      rcases a.seen j hjn (by omega) with e | ⟨p, hp⟩
      · omega
      · have he := a.e p j hp
        obtain ⟨q, hq, rfl, hk⟩ := (mem_edgesF L 0).1 hp
        refine ⟨q, hq, by omega, hk, ?_⟩
        have := he.2.2.1
        simpa using this
theorem kidF_mem {L : List Nd} {m i : Nat} {k : Int} (h : k ∈ kidF L m i) : ∃ hi : i < L.length, i < m ∧ k ∈ L[i].kids := by
  unfold kidF at h
  split at h
  · rename_i hm
    by_cases hi : i < L.length
    · rw [List.getElem?_eq_getElem hi] at h
      exact ⟨hi, hm, h⟩
    · rw [List.getElem?_eq_none (by omega)] at h
      cases h
  · cases h
theorem kidF_at {L : List Nd} {i : Nat} (hi : i < L.length) : kidF L L.length i = L[i].kids := by
  unfold kidF
  rw [if_pos hi, List.getElem?_eq_getElem hi]
  rfl
theorem kidF_len {L : List Nd} (hok : ∀ n ∈ L, n.ok) (m i : Nat) : (kidF L m i).length ≤ 9000000000000000 := by
  unfold kidF
  split
  · by_cases hi : i < L.length
    · rw [List.getElem?_eq_getElem hi]
      exact Nat.le_trans (hok _ (List.getElem_mem hi)).2.2.2.2.2.2 (by decide)
    · rw [List.getElem?_eq_none (by omega)]
      simp
  · simp
/-- Depth by a rank that falls from a node to its kids. -/
theorem dep_rank {K : Nat → List Int} {N : Nat} (rk : Nat → Nat) (h : ∀ i, i < N → ∀ k ∈ K i, 0 ≤ k ∧ k < N ∧ rk k.toNat < rk i) : ∀ (f : Nat) (i : Int), 0 ≤ i → i < N → rk i.toNat < f → Dep K N f i
  | 0, _, _, _, hr => absurd hr (by omega)
  | f + 1, i, h0, h1, hr => ⟨h0, h1, fun k hk => by
    obtain ⟨a, b, c⟩ := h i.toNat (by omega) k hk
    exact dep_rank rk h f k a b (by omega)⟩
theorem TreeOk.depth {L : List Nd} {U D : List Int} (h : TreeOk L U D) {i : Int} (h0 : 0 ≤ i) (h1 : i < L.length) : Dep (kidF L L.length) L.length 64 i := by
  refine dep_rank (fun j => (64 - D.getD j 0).toNat) (fun j hj k hk => ?_) 64 i h0 h1 ?_
  · obtain ⟨hi, _, hk⟩ := kidF_mem hk
    obtain ⟨a, b, _, d⟩ := h.kid j hi k hk
    have e := h.dep j hj
    have e2 := h.dep k.toNat (by omega)
    refine ⟨by omega, b, ?_⟩
    show (64 - D.getD k.toNat 0).toNat < (64 - D.getD j 0).toNat
    omega
  · have := h.dep i.toNat (by omega)
    show (64 - D.getD i.toNat 0).toNat < 64
    omega
end Go.Proofs.YtnkojoajcdhngaaDoor

/- Layer 8: plain: rows of kids that make a tree. -/
namespace Go.Proofs.YtnkojoajcdhngaaDoor
set_option linter.unusedVariables false
set_option linter.unusedSimpArgs false
set_option maxRecDepth 100000

/-- Each node has one parent; depths grow by one. -/
structure KTree (K : Nat → List Int) (N m : Nat) (par D : Nat → Nat) : Prop where
  kr : ∀ i, i < N → ∀ k ∈ K i, 0 ≤ k ∧ k < N ∧ par k.toNat = i ∧ D k.toNat = D i + 1
  kn : ∀ i, i < N → (K i).Nodup
  db : ∀ i, i < N → D i ≤ m
def upN (par : Nat → Nat) : Nat → Nat → Nat
  | 0, y => y
  | a + 1, y => par (upN par a y)
theorem KTree.dep {K : Nat → List Int} {N m : Nat} {par D : Nat → Nat} (h : KTree K N m par D) {i : Int} (h0 : 0 ≤ i) (h1 : i < N) {f : Nat} (hf : m < f) : Dep K N f i := by
  refine dep_rank (fun j => m - D j) (fun j hj k hk => ?_) f i h0 h1 (by show m - D i.toNat < f; omega)
  obtain ⟨a, b, _, d⟩ := h.kr j hj k hk
  have := h.db k.toNat (by omega)
  exact ⟨a, b, by show m - D k.toNat < m - D j; omega⟩
theorem KTree.anc {K : Nat → List Int} {N m : Nat} {par D : Nat → Nat} (h : KTree K N m par D) {up : Bool} : ∀ (f : Nat) (i d : Int), Dep K N f i → ∀ x ∈ subF K up f i d, 0 ≤ x.1 ∧ x.1 < N ∧ D i.toNat ≤ D x.1.toNat ∧ upN par (D x.1.toNat - D i.toNat) x.1.toNat = i.toNat
  | 0, _, _, hd, _, _ => hd.elim
  | f + 1, i, d, ⟨h0, h1, hk⟩, x, hx => by
    rw [subF] at hx
    have self : x = (i, d) → 0 ≤ x.1 ∧ x.1 < N ∧ D i.toNat ≤ D x.1.toNat ∧ upN par (D x.1.toNat - D i.toNat) x.1.toNat = i.toNat := by
      rintro rfl
      exact ⟨h0, h1, Nat.le_refl _, by rw [Nat.sub_self]; rfl⟩
    rcases List.mem_append.1 hx with hx | hx
    · rcases List.mem_append.1 hx with hx | hx
      · cases up
        · simp only [Bool.false_eq_true, if_false, List.mem_singleton] at hx
          exact self hx
        · simp at hx
      · obtain ⟨k, hk1, hk2⟩ := List.mem_flatMap.1 hx
        obtain ⟨a, b, c, e⟩ := h.anc f k (d + 1) (hk k hk1) x hk2
        obtain ⟨p, q, r, s⟩ := h.kr i.toNat (by omega) k hk1
        refine ⟨a, b, by omega, ?_⟩
        rw [show D x.1.toNat - D i.toNat = (D x.1.toNat - D k.toNat) + 1 by omega, upN, e, r]
    · cases up
      · simp at hx
      · simp only [if_true, List.mem_singleton] at hx
        exact self hx
theorem KTree.nodup {K : Nat → List Int} {N m : Nat} {par D : Nat → Nat} (h : KTree K N m par D) {up : Bool} : ∀ (f : Nat) (i d : Int), Dep K N f i → ((subF K up f i d).map (·.1)).Nodup
  | 0, _, _, hd => hd.elim
  | f + 1, i, d, ⟨h0, h1, hk⟩ => by
    have kids : ∀ ks : List Int, ks.Nodup → (∀ k ∈ ks, k ∈ K i.toNat) → ((ks.flatMap fun k => subF K up f k (d + 1)).map (·.1)).Nodup := by
      intro ks
      induction ks with
      | nil => exact fun _ _ => List.nodup_nil
      | cons k ks ih =>
        intro hn hm
        rw [List.nodup_cons] at hn
        rw [List.flatMap_cons, List.map_append, List.nodup_append]
        refine ⟨h.nodup f k (d + 1) (hk k (hm k List.mem_cons_self)), ih hn.2 (fun q hq => hm q (List.mem_cons_of_mem _ hq)), ?_⟩
        intro a ha b hb hab
        subst hab
        obtain ⟨x, hx, rfl⟩ := List.mem_map.1 ha
        obtain ⟨y, hy, hy2⟩ := List.mem_map.1 hb
        obtain ⟨q, hq, hyq⟩ := List.mem_flatMap.1 hy
        obtain ⟨a1, a2, a3, a4⟩ := h.anc f k (d + 1) (hk k (hm k List.mem_cons_self)) x hx
        obtain ⟨b1, b2, b3, b4⟩ := h.anc f q (d + 1) (hk q (hm q (List.mem_cons_of_mem _ hq))) y hyq
        obtain ⟨p1, p2, p3, p4⟩ := h.kr i.toNat (by omega) k (hm k List.mem_cons_self)
        obtain ⟨q1, q2, q3, q4⟩ := h.kr i.toNat (by omega) q (hm q (List.mem_cons_of_mem _ hq))
        rw [hy2] at b4
        rw [p4] at a4
        rw [q4] at b4
        have : k = q := by omega
        subst this
        exact hn.1 hq
    have hi : ∀ x ∈ (K i.toNat).flatMap fun k => subF K up f k (d + 1), x.1 ≠ i := by
      intro x hx e
      obtain ⟨k, hk1, hk2⟩ := List.mem_flatMap.1 hx
      obtain ⟨_, _, c, _⟩ := h.anc f k (d + 1) (hk k hk1) x hk2
      obtain ⟨_, _, _, s⟩ := h.kr i.toNat (by omega) k hk1
      rw [e] at c
      omega
    have hk0 := kids (K i.toNat) (h.kn i.toNat (by omega)) (fun k hk => hk)
    rw [subF]
    cases up with
    | false =>
      simp only [Bool.false_eq_true, if_false, List.append_nil, List.map_append, List.map_cons, List.map_nil, List.singleton_append, List.nodup_cons]
      refine ⟨fun hm => ?_, hk0⟩
      obtain ⟨x, hx, e⟩ := List.mem_map.1 hm
      exact hi x hx e
    | true =>
      simp only [if_true, List.nil_append, List.map_append, List.map_cons, List.map_nil, List.nodup_append]
      refine ⟨hk0, by simp, ?_⟩
      intro a ha b hb hab
      rw [List.mem_singleton] at hb
      obtain ⟨x, hx, e⟩ := List.mem_map.1 ha
      exact hi x hx (by rw [e, hab, hb])
theorem nodup_len {l : List Int} {N : Nat} (hn : l.Nodup) (h : ∀ x ∈ l, 0 ≤ x ∧ x < N) : l.length ≤ N := by
  have h1 : l.length ≤ ((List.range N).map fun (i : Nat) => (i : Int)).length := by
    refine hn.length_le_of_subset fun x hx => ?_
    obtain ⟨a, b⟩ := h x hx
    exact List.mem_map.2 ⟨x.toNat, List.mem_range.2 (by omega), by omega⟩
  simpa using h1
theorem KTree.len {K : Nat → List Int} {N m : Nat} {par D : Nat → Nat} (h : KTree K N m par D) {up : Bool} {f : Nat} {i d : Int} (hd : Dep K N f i) : (subF K up f i d).length ≤ N := by
  have := nodup_len (N := N) (h.nodup (up := up) f i d hd) (fun x hx => by
    obtain ⟨y, hy, rfl⟩ := List.mem_map.1 hx
    obtain ⟨a, b, _⟩ := h.anc f i d hd y hy
    exact ⟨a, b⟩)
  simpa using this
theorem KTree.kl {K : Nat → List Int} {N m : Nat} {par D : Nat → Nat} (h : KTree K N m par D) {i : Nat} (hi : i < N) : (K i).length ≤ N :=
  nodup_len (h.kn i hi) (fun x hx => ⟨(h.kr i hi x hx).1, (h.kr i hi x hx).2.1⟩)
theorem TreeOk.kt {L : List Nd} {U D : List Int} (h : TreeOk L U D) : KTree (kidF L L.length) L.length 64 (fun j => (U.getD j 0).toNat) (fun j => (D.getD j 0).toNat) := by
  refine ⟨fun i hi k hk => ?_, fun i hi => ?_, fun i hi => ?_⟩
  · rw [kidF_at hi] at hk
    obtain ⟨a, b, c, d⟩ := h.kid i hi k hk
    have e := h.dep i hi
    refine ⟨by omega, b, by simp only [c]; omega, by simp only [d]; omega⟩
  · rw [kidF_at hi]
    exact h.nd i hi
  · have e := h.dep i hi
    show (D.getD i 0).toNat ≤ 64
    omega
theorem subF_fuel {K : Nat → List Int} {N : Nat} {up : Bool} : ∀ (f g : Nat) (i d : Int), Dep K N f i → Dep K N g i → subF K up f i d = subF K up g i d
  | 0, _, _, _, h, _ => h.elim
  | _, 0, _, _, _, h => h.elim
  | f + 1, g + 1, i, d, h1, h2 => by
    rw [subF, subF]
    have : (K i.toNat).flatMap (fun k => subF K up f k (d + 1)) = (K i.toNat).flatMap (fun k => subF K up g k (d + 1)) := by
      rw [List.flatMap_def, List.flatMap_def]
      congr 1
      exact List.map_congr_left fun k hk => subF_fuel f g k (d + 1) (h1.2.2 k hk) (h2.2.2 k hk)
    rw [this]
/-- The order of a node and all below it. -/
def ordL (K : Nat → List Int) (node : Int) : List Int := (subF K false 200 node 1).map (·.1)
theorem KTree.ord {K : Nat → List Int} {N m : Nat} {par D : Nat → Nat} (h : KTree K N m par D) (hm : m < 200) {i : Int} (h0 : 0 ≤ i) (h1 : i < N) {f : Nat} (hf : m < f) : (subF K false f i 1).map (·.1) = ordL K i := by
  unfold ordL
  rw [subF_fuel f 200 i 1 (h.dep h0 h1 hf) (h.dep h0 h1 hm)]
end Go.Proofs.YtnkojoajcdhngaaDoor

/- Layer 8: plain: what is below a node; a node moved. -/
namespace Go.Proofs.YtnkojoajcdhngaaDoor
set_option linter.unusedVariables false
set_option linter.unusedSimpArgs false
set_option maxRecDepth 100000

theorem sub_self {K : Nat → List Int} {N : Nat} : ∀ (f : Nat) (i d : Int), Dep K N f i → (i, d) ∈ subF K false f i d
  | 0, _, _, h => h.elim
  | f + 1, i, d, _ => by
    rw [subF]
    simp
theorem sub_closed {K : Nat → List Int} {N : Nat} : ∀ (f : Nat) (i d : Int), Dep K N f i → ∀ x ∈ subF K false f i d, ∀ k ∈ K x.1.toNat, (k, x.2 + 1) ∈ subF K false f i d
  | 0, _, _, h, _, _, _, _ => h.elim
  | f + 1, i, d, ⟨h0, h1, hk⟩, x, hx, k, hkx => by
    rw [subF] at hx ⊢
    simp only [Bool.false_eq_true, if_false, List.append_nil, List.singleton_append, List.mem_cons, List.mem_flatMap] at hx ⊢
    rcases hx with rfl | ⟨q, hq, hx⟩
    · exact .inr ⟨k, hkx, sub_self f k (d + 1) (hk k hkx)⟩
    · exact .inr ⟨q, hq, sub_closed f q (d + 1) (hk q hq) x hx k hkx⟩
theorem sub_par {K : Nat → List Int} {N : Nat} : ∀ (f : Nat) (i d : Int), Dep K N f i → ∀ x ∈ subF K false f i d, x = (i, d) ∨ ∃ y ∈ subF K false f i d, x.1 ∈ K y.1.toNat ∧ x.2 = y.2 + 1
  | 0, _, _, h, _, _ => h.elim
  | f + 1, i, d, ⟨h0, h1, hk⟩, x, hx => by
    rw [subF] at hx ⊢
    simp only [Bool.false_eq_true, if_false, List.append_nil, List.singleton_append, List.mem_cons, List.mem_flatMap] at hx ⊢
    rcases hx with rfl | ⟨q, hq, hx⟩
    · exact .inl rfl
    · rcases sub_par f q (d + 1) (hk q hq) x hx with rfl | ⟨y, hy, h3, h4⟩
      · exact .inr ⟨(i, d), .inl rfl, hq, rfl⟩
      · exact .inr ⟨y, .inr ⟨q, hq, hy⟩, h3, h4⟩
section
variable {K : Nat → List Int} {N m : Nat} {par D : Nat → Nat} {node : Int}
theorem KTree.ord_self (h : KTree K N m par D) (hm : m < 200) (h0 : 0 ≤ node) (h1 : node < N) : node ∈ ordL K node :=
  List.mem_map.2 ⟨(node, 1), sub_self 200 node 1 (h.dep h0 h1 hm), rfl⟩
theorem KTree.ord_kid (h : KTree K N m par D) (hm : m < 200) (h0 : 0 ≤ node) (h1 : node < N) {x k : Int} (hx : x ∈ ordL K node) (hk : k ∈ K x.toNat) : k ∈ ordL K node := by
  obtain ⟨y, hy, rfl⟩ := List.mem_map.1 hx
  exact List.mem_map.2 ⟨(k, y.2 + 1), sub_closed 200 node 1 (h.dep h0 h1 hm) y hy k hk, rfl⟩
theorem KTree.ord_par (h : KTree K N m par D) (hm : m < 200) (h0 : 0 ≤ node) (h1 : node < N) {x : Int} (hx : x ∈ ordL K node) (hn : x ≠ node) : ∃ y ∈ ordL K node, x ∈ K y.toNat := by
  obtain ⟨z, hz, rfl⟩ := List.mem_map.1 hx
  rcases sub_par 200 node 1 (h.dep h0 h1 hm) z hz with rfl | ⟨y, hy, h3, _⟩
  · exact absurd rfl hn
  · exact ⟨y.1, List.mem_map.2 ⟨y, hy, rfl⟩, h3⟩
theorem KTree.ord_rg (h : KTree K N m par D) (hm : m < 200) (h0 : 0 ≤ node) (h1 : node < N) {x : Int} (hx : x ∈ ordL K node) : 0 ≤ x ∧ x < N ∧ D node.toNat ≤ D x.toNat := by
  obtain ⟨z, hz, rfl⟩ := List.mem_map.1 hx
  obtain ⟨a, b, c, _⟩ := h.anc 200 node 1 (h.dep h0 h1 hm) z hz
  exact ⟨a, b, c⟩
end
theorem nodup_ins {l : List Int} {x : Int} {i : Nat} (h : l.Nodup) (hx : x ∉ l) : (l.take i ++ x :: l.drop i).Nodup := by
  have hp : (x :: (l.take i ++ l.drop i)).Nodup := by
    rw [List.take_append_drop, List.nodup_cons]
    exact ⟨hx, h⟩
  exact hp.perm List.perm_middle.symm
theorem mem_ins {l : List Int} {x k : Int} {i : Nat} : k ∈ l.take i ++ x :: l.drop i ↔ k = x ∨ k ∈ l := by
  rw [List.perm_middle.mem_iff, List.take_append_drop, List.mem_cons]
/-- Without a node. -/
def takK (K : Nat → List Int) (node : Int) (i : Nat) : List Int := (K i).filter fun x => !(x == node)
/-- With a node put in. -/
def insK (K : Nat → List Int) (dst : Nat) (at_ : Nat) (node : Int) (i : Nat) : List Int := if i = dst then (K i).take at_ ++ node :: (K i).drop at_ else K i
theorem KTree.mov {K : Nat → List Int} {N m : Nat} {par D : Nat → Nat} (h : KTree K N m par D) (hm : m < 200) {node dst : Int} {a : Nat} (h0 : 0 ≤ node) (h1 : node < N) (t0 : 0 ≤ dst) (t1 : dst < N) (hc : dst ∉ ordL K node) :
    KTree (insK (takK K node) dst.toNat a node) N (m + m + 1) (fun j => if j = node.toNat then dst.toNat else par j) (fun j => if (j : Int) ∈ ordL K node then D j - D node.toNat + D dst.toNat + 1 else D j) := by
  have hkey : ∀ i, i < N → ∀ k ∈ takK K node i, 0 ≤ k ∧ k < N ∧ (if k.toNat = node.toNat then dst.toNat else par k.toNat) = i ∧ (if ((k.toNat : Nat) : Int) ∈ ordL K node then D k.toNat - D node.toNat + D dst.toNat + 1 else D k.toNat) = (if (i : Int) ∈ ordL K node then D i - D node.toNat + D dst.toNat + 1 else D i) + 1 := by
    intro i hi k hk
    obtain ⟨hk1, hk2⟩ := List.mem_filter.1 hk
    have hkn : k ≠ node := by simpa using hk2
    obtain ⟨a1, a2, a3, a4⟩ := h.kr i hi k hk1
    have hkt : ((k.toNat : Nat) : Int) = k := by omega
    refine ⟨a1, a2, by rw [if_neg (by omega)]; exact a3, ?_⟩
    rw [hkt]
    by_cases hio : (i : Int) ∈ ordL K node
    · have hko := h.ord_kid hm h0 h1 hio (by simpa using hk1)
      have := (h.ord_rg hm h0 h1 hio).2.2
      rw [if_pos hio, if_pos hko]
      simp only [Int.toNat_natCast] at this
      omega
    · have hko : k ∉ ordL K node := fun hko => by
        obtain ⟨y, hy, hky⟩ := h.ord_par hm h0 h1 hko hkn
        obtain ⟨y0, y1, _⟩ := h.ord_rg hm h0 h1 hy
        obtain ⟨_, _, b3, _⟩ := h.kr y.toNat (by omega) k hky
        rw [a3] at b3
        apply hio
        rw [b3, Int.toNat_of_nonneg y0]
        exact hy
      rw [if_neg hio, if_neg hko]
      exact a4
  refine ⟨fun i hi k hk => ?_, fun i hi => ?_, fun i hi => ?_⟩
  · unfold insK at hk
    split at hk
    · rename_i e
      rcases mem_ins.1 hk with rfl | hk
      · have hto : ((dst.toNat : Nat) : Int) = dst := by omega
        have hno : ((k.toNat : Nat) : Int) = k := by omega
        refine ⟨h0, h1, by show (if k.toNat = k.toNat then dst.toNat else par k.toNat) = i; rw [if_pos rfl]; omega, ?_⟩
        show (if ((k.toNat : Nat) : Int) ∈ ordL K k then _ else _) = (if (i : Int) ∈ ordL K k then _ else _) + 1
        rw [hno, if_pos (h.ord_self hm h0 h1), e, hto, if_neg hc]
        omega
      · exact hkey i hi k hk
    · exact hkey i hi k hk
  · unfold insK
    split
    · refine nodup_ins ((h.kn i hi).sublist List.filter_sublist) fun hm => ?_
      have := (List.mem_filter.1 hm).2
      simp at this
    · exact (h.kn i hi).sublist List.filter_sublist
  · have b1 := h.db i hi
    have b2 := h.db dst.toNat (by omega)
    show (if (i : Int) ∈ ordL K node then D i - D node.toNat + D dst.toNat + 1 else D i) ≤ m + m + 1
    split <;> omega
end Go.Proofs.YtnkojoajcdhngaaDoor
