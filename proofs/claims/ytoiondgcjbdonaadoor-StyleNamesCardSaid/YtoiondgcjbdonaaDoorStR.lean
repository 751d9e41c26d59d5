/- Layer 5: rules in plain Lean: which may be, how strong they are, which hold, what comes of them. -/
import Derived.Test.YtoiondgcjbdonaaDoorStD
import Derived.Lib.Split
import Derived.Lib.BitFns
import Derived.Shelf.Unicode.ValidAny
namespace Go.Proofs.YtoiondgcjbdonaaDoor
set_option linter.unusedVariables false
set_option linter.unusedSimpArgs false
set_option maxRecDepth 100000
open Go.RowKit Go.Lib

/-! ### Bits -/
theorem bit_tab : ((List.range 256).all fun h => (((h &&& 1) != 0) == h.testBit 0) && (((h &&& 2) != 0) == h.testBit 1) && (((h &&& 4) != 0) == h.testBit 2) && (((h &&& 8) != 0) == h.testBit 3)) = true := by kernel_rfl
theorem tl_and {h m : Nat} (hh : h < 256) (hm : m < 256) : tl h (m : Int) = ((h &&& m) != 0) := by
  unfold tl
  rw [and8 h m hh hm, Bool.eq_iff_iff]
  simp only [bne_iff_ne, ne_eq]
  omega
theorem tl1 {h : Nat} (hh : h < 256) : tl h 1 = h.testBit 0 := by
  have t := List.all_eq_true.1 bit_tab h (List.mem_range.2 hh)
  simp only [Bool.and_eq_true, beq_iff_eq] at t
  rw [← t.1.1.1]; exact tl_and (m := 1) hh (by omega)
theorem tl2 {h : Nat} (hh : h < 256) : tl h 2 = h.testBit 1 := by
  have t := List.all_eq_true.1 bit_tab h (List.mem_range.2 hh)
  simp only [Bool.and_eq_true, beq_iff_eq] at t
  rw [← t.1.1.2]; exact tl_and (m := 2) hh (by omega)
theorem tl4 {h : Nat} (hh : h < 256) : tl h 4 = h.testBit 2 := by
  have t := List.all_eq_true.1 bit_tab h (List.mem_range.2 hh)
  simp only [Bool.and_eq_true, beq_iff_eq] at t
  rw [← t.1.2]; exact tl_and (m := 4) hh (by omega)
theorem tl8 {h : Nat} (hh : h < 256) : tl h 8 = h.testBit 3 := by
  have t := List.all_eq_true.1 bit_tab h (List.mem_range.2 hh)
  simp only [Bool.and_eq_true, beq_iff_eq] at t
  rw [← t.2]; exact tl_and (m := 8) hh (by omega)
/-- A number of four bits. -/
def nib (a b c d : Bool) : Nat := a.toNat + 2 * b.toNat + 4 * c.toNat + 8 * d.toNat
theorem nib_lt (a b c d : Bool) : nib a b c d < 16 := by cases a <;> cases b <;> cases c <;> cases d <;> decide
theorem nib_bits (a b c d : Bool) : (nib a b c d).testBit 0 = a ∧ (nib a b c d).testBit 1 = b ∧ (nib a b c d).testBit 2 = c ∧ (nib a b c d).testBit 3 = d := by
  cases a <;> cases b <;> cases c <;> cases d <;> decide
theorem nib_tab : ((List.range 256).all fun h => h % 16 == nib (h.testBit 0) (h.testBit 1) (h.testBit 2) (h.testBit 3)) = true := by kernel_rfl
theorem mod_nib {h : Nat} (hh : h < 256) : h % 16 = nib (h.testBit 0) (h.testBit 1) (h.testBit 2) (h.testBit 3) := by
  have t := List.all_eq_true.1 nib_tab h (List.mem_range.2 hh)
  exact beq_iff_eq.1 t
theorem nib_or {h m : Nat} (hh : h < 256) (hm : m < 256) : (h ||| m) % 16 = nib (h.testBit 0 || m.testBit 0) (h.testBit 1 || m.testBit 1) (h.testBit 2 || m.testBit 2) (h.testBit 3 || m.testBit 3) := by
  rw [mod_nib (or_lt8 hh hm)]; simp only [Nat.testBit_or]

/-! ### Looks -/
/-- A look by its bits. -/
def mk4 (a b c d : Bool) (col bak : Cl) (brd : Bool) (pad : Int) : Lk := ⟨nib a b c d, if a then col else Cl.zero, if b then bak else Cl.zero, if c then brd else false, if d then pad else 0⟩
/-- What a look tells, and nothing else. -/
def Lk.norm (x : Lk) : Lk := mk4 (x.has.testBit 0) (x.has.testBit 1) (x.has.testBit 2) (x.has.testBit 3) x.col x.bak x.brd x.pad
theorem under_eq {a b : Lk} (ha : a.has < 256) (hb : b.has < 256) : underL a b =
    mk4 (a.has.testBit 0 || b.has.testBit 0) (a.has.testBit 1 || b.has.testBit 1) (a.has.testBit 2 || b.has.testBit 2) (a.has.testBit 3 || b.has.testBit 3)
      (if a.has.testBit 0 then a.col else b.col) (if a.has.testBit 1 then a.bak else b.bak) (if a.has.testBit 2 then a.brd else b.brd) (if a.has.testBit 3 then a.pad else b.pad) := by
  unfold underL mk4
  rw [nib_or ha hb, tl1 ha, tl1 hb, tl2 ha, tl2 hb, tl4 ha, tl4 hb, tl8 ha, tl8 hb]
  congr 1
  · cases a.has.testBit 0 <;> cases b.has.testBit 0 <;> rfl
  · cases a.has.testBit 1 <;> cases b.has.testBit 1 <;> rfl
  · cases a.has.testBit 2 <;> cases b.has.testBit 2 <;> rfl
  · cases a.has.testBit 3 <;> cases b.has.testBit 3 <;> rfl
theorem mk4_has (a b c d : Bool) (col bak : Cl) (brd : Bool) (pad : Int) : (mk4 a b c d col bak brd pad).has = nib a b c d := rfl
theorem under_lt (a b : Lk) : (underL a b).has < 16 := Nat.mod_lt _ (by omega)
theorem mk4_bits (a b c d : Bool) (col bak : Cl) (brd : Bool) (pad : Int) : (mk4 a b c d col bak brd pad).has.testBit 0 = a ∧ (mk4 a b c d col bak brd pad).has.testBit 1 = b ∧ (mk4 a b c d col bak brd pad).has.testBit 2 = c ∧ (mk4 a b c d col bak brd pad).has.testBit 3 = d := nib_bits a b c d
theorem under_mk {a0 a1 a2 a3 : Bool} {ac ab : Cl} {ar : Bool} {ap : Int} {b0 b1 b2 b3 : Bool} {bc bb : Cl} {br : Bool} {bp : Int} :
    underL (mk4 a0 a1 a2 a3 ac ab ar ap) (mk4 b0 b1 b2 b3 bc bb br bp) = mk4 (a0 || b0) (a1 || b1) (a2 || b2) (a3 || b3) (if a0 then ac else bc) (if a1 then ab else bb) (if a2 then ar else br) (if a3 then ap else bp) := by
  have ha := nib_lt a0 a1 a2 a3
  have hb := nib_lt b0 b1 b2 b3
  rw [under_eq (show (mk4 a0 a1 a2 a3 ac ab ar ap).has < 256 by rw [mk4_has]; omega) (show (mk4 b0 b1 b2 b3 bc bb br bp).has < 256 by rw [mk4_has]; omega)]
  obtain ⟨h0, h1, h2, h3⟩ := mk4_bits a0 a1 a2 a3 ac ab ar ap
  obtain ⟨g0, g1, g2, g3⟩ := mk4_bits b0 b1 b2 b3 bc bb br bp
  rw [h0, h1, h2, h3, g0, g1, g2, g3]
  unfold mk4
  congr 1
  · cases a0 <;> cases b0 <;> rfl
  · cases a1 <;> cases b1 <;> rfl
  · cases a2 <;> cases b2 <;> rfl
  · cases a3 <;> cases b3 <;> rfl
theorem under_norm {a b : Lk} (ha : a.has < 256) (hb : b.has < 256) : underL a b = underL a.norm b.norm := by
  unfold Lk.norm
  rw [under_mk, under_eq ha hb]
theorem norm_mk {a b c d : Bool} {col bak : Cl} {brd : Bool} {pad : Int} : (mk4 a b c d col bak brd pad).norm = mk4 a b c d col bak brd pad := by
  unfold Lk.norm
  obtain ⟨h0, h1, h2, h3⟩ := mk4_bits a b c d col bak brd pad
  rw [h0, h1, h2, h3]
  unfold mk4
  congr 1
  · cases a <;> rfl
  · cases b <;> rfl
  · cases c <;> rfl
  · cases d <;> rfl
theorem norm_norm (x : Lk) : x.norm.norm = x.norm := norm_mk
theorem norm_lt (x : Lk) : x.norm.has < 16 := nib_lt _ _ _ _
theorem norm_under {a b : Lk} (ha : a.has < 256) (hb : b.has < 256) : (underL a b).norm = underL a b := by
  rw [under_eq ha hb, norm_mk]
theorem none_norm : Lk.none.norm = Lk.none := by decide
theorem under_none {a : Lk} (ha : a.has < 256) : underL a Lk.none = a.norm := by
  rw [under_eq ha (by decide)]
  unfold Lk.norm mk4
  simp only [show Lk.none.has = 0 from rfl, Nat.zero_testBit, Bool.or_false]
  congr 1
  · cases a.has.testBit 0 <;> rfl
  · cases a.has.testBit 1 <;> rfl
  · cases a.has.testBit 2 <;> rfl
  · cases a.has.testBit 3 <;> rfl
theorem none_under {a : Lk} (ha : a.has < 256) : underL Lk.none a = a.norm := by
  rw [under_eq (by decide) ha]
  unfold Lk.norm mk4
  simp only [show Lk.none.has = 0 from rfl, Nat.zero_testBit, Bool.false_or]
  rfl
theorem under_assoc {a b c : Lk} (ha : a.has < 256) (hb : b.has < 256) (hc : c.has < 256) : underL (underL a b) c = underL a (underL b c) := by
  have h1 := under_lt a b
  have h2 := under_lt b c
  rw [under_norm (a := underL a b) (by omega) hc, under_norm (b := underL b c) ha (by omega), norm_under ha hb, norm_under hb hc, under_norm ha hb, under_norm hb hc]
  unfold Lk.norm
  rw [under_mk, under_mk, under_mk, under_mk]
  unfold mk4
  congr 1
  · simp only [Bool.or_assoc]
  · cases a.has.testBit 0 <;> cases b.has.testBit 0 <;> cases c.has.testBit 0 <;> rfl
  · cases a.has.testBit 1 <;> cases b.has.testBit 1 <;> cases c.has.testBit 1 <;> rfl
  · cases a.has.testBit 2 <;> cases b.has.testBit 2 <;> cases c.has.testBit 2 <;> rfl
  · cases a.has.testBit 3 <;> cases b.has.testBit 3 <;> cases c.has.testBit 3 <;> rfl
/-- A look that tells all hides what is beneath. -/
theorem full_under {a b : Lk} (ha : a.has = 15) (hb : b.has < 256) : underL a b = a := by
  rw [under_eq (by omega) hb, ha]
  obtain ⟨has, col, bak, brd, pad⟩ := a
  obtain rfl : has = 15 := ha
  unfold mk4
  simp only [show Nat.testBit 15 0 = true from rfl, show Nat.testBit 15 1 = true from rfl, show Nat.testBit 15 2 = true from rfl, show Nat.testBit 15 3 = true from rfl, Bool.true_or, if_true]
  rfl

/-! ### Looks that may be -/
def mayL (x : Lk) : Bool := decide (x.has ≤ 15) && (decide (0 ≤ x.pad) && (decide (x.pad ≤ 16384) && decide (x = underL x Lk.none)))
def mayR (x : Lk) : Bool := (decide (x.has ≤ 15) && (decide (0 ≤ x.pad) && decide (x.pad ≤ 16384))) && ((tl x.has 1 || decide (x.col = Cl.zero)) && ((tl x.has 2 || decide (x.bak = Cl.zero)) && ((tl x.has 4 || !x.brd) && (tl x.has 8 || decide (x.pad = 0)))))
theorem norm_eq {x : Lk} (hx : x.has ≤ 15) : x.norm = x ↔ ((x.has.testBit 0 = true ∨ x.col = Cl.zero) ∧ (x.has.testBit 1 = true ∨ x.bak = Cl.zero) ∧ (x.has.testBit 2 = true ∨ x.brd = false) ∧ (x.has.testBit 3 = true ∨ x.pad = 0)) := by
  obtain ⟨has, col, bak, brd, pad⟩ := x
  unfold Lk.norm mk4
  have e := mod_nib (show has < 256 by simp only at hx; omega)
  simp only at hx ⊢
  rw [← e, Nat.mod_eq_of_lt (by omega)]
  simp only [Lk.mk.injEq, true_and]
  constructor
  · rintro ⟨h0, h1, h2, h3⟩
    refine ⟨?_, ?_, ?_, ?_⟩
    · cases hb : has.testBit 0
      · rw [hb] at h0; exact .inr h0.symm
      · exact .inl rfl
    · cases hb : has.testBit 1
      · rw [hb] at h1; exact .inr h1.symm
      · exact .inl rfl
    · cases hb : has.testBit 2
      · rw [hb] at h2; exact .inr h2.symm
      · exact .inl rfl
    · cases hb : has.testBit 3
      · rw [hb] at h3; exact .inr h3.symm
      · exact .inl rfl
  · rintro ⟨h0, h1, h2, h3⟩
    refine ⟨?_, ?_, ?_, ?_⟩
    · rcases h0 with h | h <;> rw [h]
      · rfl
      · split <;> rfl
    · rcases h1 with h | h <;> rw [h]
      · rfl
      · split <;> rfl
    · rcases h2 with h | h <;> rw [h]
      · rfl
      · split <;> rfl
    · rcases h3 with h | h <;> rw [h]
      · rfl
      · split <;> rfl
theorem may_eq {x : Lk} (hx : x.has < 256) : mayR x = mayL x := by
  unfold mayR mayL
  by_cases h : x.has ≤ 15
  · rw [decide_eq_true h, Bool.true_and, Bool.true_and, tl1 hx, tl2 hx, tl4 hx, tl8 hx, under_none hx, Bool.and_assoc]
    congr 1
    congr 1
    rw [Bool.eq_iff_iff]
    simp only [Bool.and_eq_true, Bool.or_eq_true, decide_eq_true_eq, Bool.not_eq_true']
    rw [← norm_eq h]
    exact eq_comm
  · rw [decide_eq_false h, Bool.false_and, Bool.false_and, Bool.false_and]

/-! ### Rules -/
structure Ru where
  kind : Nat
  cls : ByteArray
  st : Nat
  look : Lk
def Ru.In (r : Ru) : Prop := r.kind < 256 ∧ r.st < 256 ∧ r.look.In ∧ r.cls.size ≤ 9223372036854775807
/-- A rule's cells. -/
def ruC (r : Ru) : List Value := .int .u8 (r.kind : Int) :: .string r.cls :: .int .u8 (r.st : Int) :: lkC r.look
def rus : List Ru → List Value
  | [] => []
  | r :: l => ruC r ++ rus l
theorem ruC_len (r : Ru) : (ruC r).length = 14 := rfl
theorem rus_len (l : List Ru) : (rus l).length = l.length * 14 := by
  induction l with
  | nil => rfl
  | cons r l ih => simp only [rus, List.length_append, ih, ruC_len, List.length_cons]; omega
theorem rus_append (l m : List Ru) : rus (l ++ m) = rus l ++ rus m := by
  induction l with
  | nil => rfl
  | cons r l ih => simp only [List.cons_append, rus, ih, List.append_assoc]
theorem rus_at (l : List Ru) (k j : Nat) (h : k < l.length) (hj : j < 14) : (rus l)[k * 14 + j]? = (ruC l[k])[j]? := by
  induction l generalizing k with
  | nil => simp at h
  | cons r l ih =>
    cases k with
    | zero =>
      simp only [rus, Nat.zero_mul, Nat.zero_add, List.getElem_cons_zero]
      rw [List.getElem?_append_left (by rw [ruC_len]; exact hj)]
    | succ k =>
      have := ih k (by simpa using h)
      simp only [rus, List.getElem_cons_succ]
      rw [List.getElem?_append_right (by rw [ruC_len]; omega), ruC_len, show (k + 1) * 14 + j - 14 = k * 14 + j by omega]
      exact this

def hasBlank (s : List UInt8) : Bool := s.contains 32
def okR (r : Ru) : Bool := decide (r.kind ≤ 10) && (decide (r.cls.size ≤ 64) && (!hasBlank r.cls.data.toList && (Lib.validD r.cls.data.toList && (decide (r.st ≤ 15) && mayL r.look))))
def okAll (L : List Ru) : Bool := L.all okR
def chkE (L : List Ru) : Int := if 256 < L.length then 4 else if okAll L then 0 else 50
def keyR (r : Ru) : Nat := Lib.onesCount r.st * 4 + (if r.cls.size = 0 then 0 else 2) + (if r.kind = 0 then 0 else 1)
theorem ones_lt (s : Nat) (h : s < 256) : Lib.onesCount s ≤ 8 := by
  have t : ((List.range 256).all fun s => Lib.onesCount s ≤ 8) = true := by kernel_rfl
  exact of_decide_eq_true (List.all_eq_true.1 t s (List.mem_range.2 h))
theorem key_lt (r : Ru) (h : r.st < 256) : keyR r ≤ 35 := by
  have := ones_lt _ h
  unfold keyR
  split <;> split <;> omega
/-- The strength by place. -/
def keyAt (L : List Ru) (i : Nat) : Nat := (L[i]?.map keyR).getD 0
theorem keyAt_get {L : List Ru} {i : Nat} (h : i < L.length) : keyAt L i = keyR L[i] := by simp [keyAt, h]

/-! ### Classes -/
/-- A text's pieces between blanks. -/
def pcs : List UInt8 → List (List UInt8)
  | [] => [[]]
  | c :: t => if c = 32 then [] :: pcs t else match pcs t with
    | p :: ps => (c :: p) :: ps
    | [] => [[c]]
theorem pcs_cons (c : UInt8) (t : List UInt8) : pcs (c :: t) = if c = 32 then [] :: pcs t else match pcs t with
    | p :: ps => (c :: p) :: ps
    | [] => [[c]] := rfl
theorem pcs_ne (s : List UInt8) : pcs s ≠ [] := by
  cases s with
  | nil => simp [pcs]
  | cons c t =>
    unfold pcs
    split
    · simp
    · split <;> simp
theorem index_pcs (s : List UInt8) : (Lib.index s [32] = -1 → pcs s = [s]) ∧ ∀ i : Nat, Lib.index s [32] = i → i < s.length ∧ pcs s = s.take i :: pcs (s.drop (i + 1)) := by
  induction s with
  | nil => exact ⟨fun _ => rfl, fun i hi => by simp [Lib.index] at hi⟩
  | cons c t ih =>
    have hge := Lib.index_ge t [32]
    by_cases hc : c = 32
    · subst hc
      refine ⟨fun h => by simp [Lib.index] at h, fun i hi => ?_⟩
      have h0 : Lib.index (32 :: t) [32] = 0 := by simp [Lib.index]
      rw [h0] at hi
      obtain rfl : i = 0 := by omega
      exact ⟨by simp, by simp [pcs]⟩
    · have hp : ([32] : List UInt8).isPrefixOf (c :: t) = false := by
        simp [List.isPrefixOf]
        exact fun h => hc h.symm
      constructor
      · intro h
        have h1 : Lib.index t [32] = -1 := by
          unfold Lib.index at h
          rw [hp] at h
          simp only [Bool.false_eq_true, if_false] at h
          split at h
          · next g => simpa using g
          · omega
        have := ih.1 h1
        unfold pcs
        rw [if_neg hc, this]
      · intro i h
        unfold Lib.index at h
        rw [hp] at h
        simp only [Bool.false_eq_true, if_false] at h
        split at h
        · omega
        · next g =>
          have g' : Lib.index t [32] ≠ -1 := by simpa using g
          cases i with
          | zero => omega
          | succ i =>
            obtain ⟨h1, h2⟩ := ih.2 i (by omega)
            refine ⟨by simp; omega, ?_⟩
            rw [pcs_cons, if_neg hc, h2]
            simp
theorem split_pcs : ∀ (n : Nat) (s : List UInt8), s.length ≤ n → Lib.splitK [32] 0 (Lib.count s [32]) s = pcs s := by
  intro n
  induction n with
  | zero =>
    intro s hs
    have : s = [] := List.length_eq_zero_iff.1 (by omega)
    subst this
    rw [Lib.count_miss (by simp [Lib.index])]
    rfl
  | succ n ih =>
    intro s hs
    rcases Lib.index_spec s [32] with ⟨h, _⟩ | ⟨i, h, _, _, _⟩
    · rw [Lib.count_miss h, (index_pcs s).1 h]; rfl
    · obtain ⟨hi, hp⟩ := (index_pcs s).2 i h
      rw [Lib.count_hit (by simp) h, hp, Nat.add_comm 1]
      unfold Lib.splitK
      have hne : ¬ ((Lib.index s [32] == -1) = true) := by rw [h]; simp
      rw [if_neg hne, h]
      simp only [Int.toNat_natCast, Nat.add_zero, List.length_singleton]
      rw [ih _ (by simp; omega)]
/-- Is a word among a text's classes? -/
def amongL (w s : List UInt8) : Bool := (pcs s).any fun p => !p.isEmpty && p == w
/-- The same, from a place on, with what lies behind the last blank. -/
def amongG (w : List UInt8) : List UInt8 → List UInt8 → Bool
  | acc, [] => !acc.isEmpty && acc == w
  | acc, c :: t => if c = 32 then (!acc.isEmpty && acc == w) || amongG w [] t else amongG w (acc ++ [c]) t
theorem amongG_eq (w : List UInt8) (s acc : List UInt8) : amongG w acc s = match pcs s with
    | p :: ps => (!(acc ++ p).isEmpty && (acc ++ p) == w) || ps.any fun p => !p.isEmpty && p == w
    | [] => false := by
  induction s generalizing acc with
  | nil => simp [amongG, pcs]
  | cons c t ih =>
    unfold amongG pcs
    by_cases hc : c = 32
    · rw [if_pos hc, if_pos hc, ih]
      have hne := pcs_ne t
      cases hp : pcs t with
      | nil => exact absurd hp hne
      | cons p ps => simp
    · rw [if_neg hc, if_neg hc, ih]
      have hne := pcs_ne t
      cases hp : pcs t with
      | nil => exact absurd hp hne
      | cons p ps => simp
theorem among_eq (w s : List UInt8) : amongG w [] s = amongL w s := by
  rw [amongG_eq]
  unfold amongL
  have hne := pcs_ne s
  cases hp : pcs s with
  | nil => exact absurd hp hne
  | cons p ps => simp
/-- Does a rule hold? -/
def holdsL (r : Ru) (kind : Nat) (class_ : List UInt8) (st : Nat) : Bool :=
  (decide (r.kind = 0) || decide (r.kind = kind)) && (decide (r.st &&& st = r.st) && (decide (r.cls.size = 0) || amongL r.cls.data.toList class_))
end Go.Proofs.YtoiondgcjbdonaaDoor
