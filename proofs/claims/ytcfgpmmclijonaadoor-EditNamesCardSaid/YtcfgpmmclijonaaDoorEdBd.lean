/- Layer 25: rows of texts and of ops; the past as a list; one op of the law. -/
import Derived.Test.YtcfgpmmclijonaaDoorEdKy
namespace Go.Proofs.YtcfgpmmclijonaaDoor
set_option linter.unusedVariables false
set_option linter.unusedSimpArgs false
set_option maxRecDepth 100000
open Go.RowKit Go.Shelf Go.Lib
set_option maxRecDepth 100000
set_option maxHeartbeats 8000000

structure Tx where
  b : ByteArray
  x : Nat
  y : Nat
def txs : List Tx → List Value
  | [] => []
  | t :: l => .string t.b :: .int .i64 (t.x : Int) :: .int .i64 (t.y : Int) :: txs l
theorem txs_len : ∀ l : List Tx, (txs l).length = l.length * 3
  | [] => rfl
  | k :: l => by simp only [txs, List.length_cons, txs_len l]; omega
theorem txs_append : ∀ l m : List Tx, txs (l ++ m) = txs l ++ txs m
  | [], _ => rfl
  | k :: l, m => by simp [txs, txs_append l m]
theorem txs_one : ∀ l : List Tx, ∀ v ∈ txs l, v.oneCell' = true
  | [], v, h => by cases h
  | k :: l, v, h => by
    simp only [txs, List.mem_cons] at h
    rcases h with rfl | rfl | rfl | h
    · rfl
    · rfl
    · rfl
    · exact txs_one l v h
theorem txs_at : ∀ (l : List Tx) (k : Nat) (h : k < l.length), (txs l)[k * 3]? = some (.string l[k].b) ∧ (txs l)[k * 3 + 1]? = some (.int .i64 (l[k].x : Int)) ∧ (txs l)[k * 3 + 2]? = some (.int .i64 (l[k].y : Int))
  | [], k, h => absurd h (by simp)
  | a :: l, 0, _ => by simp [txs]
  | a :: l, k + 1, h => by
    have := txs_at l k (by simpa using h)
    rw [show (k + 1) * 3 = k * 3 + 3 by omega]
    simpa [txs] using this
theorem At.tx {B : Nat} {w : World} {A : Option Addr} {l : List Tx} (h : At B w A (txs l)) {k : Nat} (hk : k < l.length) : ∃ g o, A = some ⟨g, o, none⟩ ∧ g < B ∧ w.cell? ⟨g, o + k * 3, none⟩ = some (.string l[k].b) ∧ w.cell? ⟨g, o + k * 3 + 1, none⟩ = some (.int .i64 (l[k].x : Int)) ∧ w.cell? ⟨g, o + k * 3 + 2, none⟩ = some (.int .i64 (l[k].y : Int)) := by
  obtain ⟨g, o, hA, hg, hc⟩ := h (by rw [txs_len]; omega)
  obtain ⟨h0, h1, h2⟩ := txs_at l k hk
  exact ⟨g, o, hA, hg, hc _ _ h0, by rw [Nat.add_assoc]; exact hc _ _ h1, by rw [Nat.add_assoc]; exact hc _ _ h2⟩
theorem info_text : (Tryd.prog.info? 31).map (fun i => (i.zero, i.size, i.bytes)) = some (some (.agg #[.string { data := #[] }, .int .i64 0, .int .i64 0]), 3, 32) := by kernel_rfl
section
variable {ops : Array Oper} {rest : List Oper} {o : Oper} {a : Act} {Q : Exit → Act → World → Prop} {w : World}
theorem append_text (hgd : o.guard = none) (s x : Operand) (ho : o.op = .call { callee := .builtin .append, args := #[s, x], argTypes := #[39, 39] }) (base : Nat) (v : Value) (l : List Tx) (t : Tx) (g : Nat)
    (hs : a.eval s = v) (hx : a.eval x = .slice (some ⟨g, 0, none⟩) 1 1) (hown : w.ownsRow base 31 3 v l.length (txs l)) (h0 : w.cell? ⟨g, 0, none⟩ = some (.string t.b)) (h1 : w.cell? ⟨g, 1, none⟩ = some (.int .i64 (t.x : Int))) (h2 : w.cell? ⟨g, 2, none⟩ = some (.int .i64 (t.y : Int))) (hn : l.length ≤ 1000000) (hbase : base ≤ w.heap.size)
    (h : ∀ v' w', w'.ownsRow base 31 3 v' (l ++ [t]).length (txs (l ++ [t])) → w.grownBy w' v.ownBlock → v' ≠ .slice none 0 0 → wpList Tryd.prog ops Q rest (a.put o.dst v') w') : wpList Tryd.prog ops Q (o :: rest) a w := by
  obtain ⟨i0, hi, hz0, hz1, hz2⟩ := info_parts info_text
  refine wpList_append_own w hgd s x 39 ho base 31 i0 _ 3 32 Tryd.underlying39 hi hz0 hz1 hz2 rfl (by decide) v l.length (txs l) hs hown ⟨g, 0, none⟩ 1 1 (txs [t]) hx rfl (fun j u hj => ?_) (txs_one _) (by unfold maxLen; omega) (by omega) hbase (fun v' w' h4 h5 h6 => ?_)
  · match j, hj with
    | 0, hj => simp only [txs] at hj; cases hj; simpa [Addr.add] using h0
    | 1, hj => simp only [txs] at hj; cases hj; simpa [Addr.add] using h1
    | 2, hj => simp only [txs] at hj; cases hj; simpa [Addr.add] using h2
    | j + 3, hj => simp [txs] at hj
  · refine h v' w' (by rw [txs_append, List.length_append]; exact h4) h5 (fun e => ?_)
    have := (h6.1 e).2
    omega
end

/-! ### ops -/
structure Opr where
  d : Int
  s : ByteArray
  nm : ByteArray
  md : Nat
  n : Int
  keep : Bool
def oprs : List Opr → List Value
  | [] => []
  | t :: l => .int .i64 t.d :: .string t.s :: .string t.nm :: .int .u8 (t.md : Int) :: .int .i64 t.n :: .bool t.keep :: oprs l
theorem oprs_len : ∀ l : List Opr, (oprs l).length = l.length * 6
  | [] => rfl
  | k :: l => by simp only [oprs, List.length_cons, oprs_len l]; omega
theorem oprs_at : ∀ (l : List Opr) (k : Nat) (h : k < l.length), (oprs l)[k * 6]? = some (.int .i64 l[k].d) ∧ (oprs l)[k * 6 + 1]? = some (.string l[k].s) ∧ (oprs l)[k * 6 + 2]? = some (.string l[k].nm) ∧ (oprs l)[k * 6 + 3]? = some (.int .u8 (l[k].md : Int)) ∧ (oprs l)[k * 6 + 4]? = some (.int .i64 l[k].n) ∧ (oprs l)[k * 6 + 5]? = some (.bool l[k].keep)
  | [], k, h => absurd h (by simp)
  | a :: l, 0, _ => by simp [oprs]
  | a :: l, k + 1, h => by
    have := oprs_at l k (by simpa using h)
    rw [show (k + 1) * 6 = k * 6 + 6 by omega]
    simpa [oprs] using this
theorem At.opr {B : Nat} {w : World} {A : Option Addr} {l : List Opr} (h : At B w A (oprs l)) {k : Nat} (hk : k < l.length) : ∃ g o, A = some ⟨g, o, none⟩ ∧ g < B ∧ w.cell? ⟨g, o + k * 6, none⟩ = some (.int .i64 l[k].d) ∧ w.cell? ⟨g, o + k * 6 + 1, none⟩ = some (.string l[k].s) ∧ w.cell? ⟨g, o + k * 6 + 2, none⟩ = some (.string l[k].nm) ∧
    w.cell? ⟨g, o + k * 6 + 3, none⟩ = some (.int .u8 (l[k].md : Int)) ∧ w.cell? ⟨g, o + k * 6 + 4, none⟩ = some (.int .i64 l[k].n) ∧ w.cell? ⟨g, o + k * 6 + 5, none⟩ = some (.bool l[k].keep) := by
  obtain ⟨g, o, hA, hg, hc⟩ := h (by rw [oprs_len]; omega)
  obtain ⟨h0, h1, h2, h3, h4, h5⟩ := oprs_at l k hk
  exact ⟨g, o, hA, hg, hc _ _ h0, by rw [Nat.add_assoc]; exact hc _ _ h1, by rw [Nat.add_assoc]; exact hc _ _ h2, by rw [Nat.add_assoc]; exact hc _ _ h3, by rw [Nat.add_assoc]; exact hc _ _ h4, by rw [Nat.add_assoc]; exact hc _ _ h5⟩

/-! ### the past -/
structure Stp where
  u : Tx
  v : Tx
def Chain (w : World) : Option Addr → List Stp → Prop
  | a, [] => a = none
  | a, s :: L => ∃ t r, a = some ⟨t, 0, none⟩ ∧ StAt w t s.u.b s.u.x s.u.y s.v.b s.v.x s.v.y (.pointer r) ∧ Chain w r L
theorem Chain.on {w w' : World} (hb : Below w.heap.size w w') : ∀ (L : List Stp) (a : Option Addr), Chain w a L → Chain w' a L
  | [], _, h => h
  | _ :: L, _, ⟨t, r, h1, h2, h3⟩ => ⟨t, r, h1, h2.on hb, Chain.on hb L r h3⟩
theorem Chain.grown {w w' : World} {g : Nat} {E : Ed} (hE : EdS w g E) (hg : w.grownBy w' (some g)) : ∀ (L : List Stp) (a : Option Addr), Chain w a L → Chain w' a L
  | [], _, h => h
  | _ :: L, _, ⟨t, r, h1, h2, h3⟩ => by
    refine ⟨t, r, h1, ?_, Chain.grown hE hg L r h3⟩
    have hne : g ≠ t := ed_st_ne hE h2
    unfold StAt at h2 ⊢
    rw [hg.block t (lt_of_block h2) (fun e => by injection e with e; exact hne e.symm)]
    exact h2
def EdOk (E : Ed) : Prop := E.b.size ≤ 65536 ∧ Seam E.b.data.toList E.x ∧ Seam E.b.data.toList E.y
theorem EdOk.le {E : Ed} (h : EdOk E) : E.x ≤ E.b.size ∧ E.y ≤ E.b.size := by
  have h1 := h.2.1.le
  have h2 := h.2.2.le
  rw [ba_len] at h1 h2
  exact ⟨h1, h2⟩
/-- What an op leaves: no step, the text as it was, or one step more. -/
def Did (w' : World) (E E' : Ed) : Prop := EdOk E' ∧
  ((E'.b = E.b ∧ E'.p = E.p ∧ E'.q = E.q ∧ E'.k = E.k ∧ E'.m = E.m) ∨
   (∃ t, E'.p = some ⟨t, 0, none⟩ ∧ E'.q = none ∧ E'.k = E.k + 1 ∧ E'.m = 0 ∧ StAt w' t E.b E.x E.y E'.b E'.x E'.y (.pointer E.p)))
theorem cat3_size {b s : ByteArray} {lo hi : Nat} (h1 : lo ≤ hi) (h2 : hi ≤ b.size) : (cat3 b s lo hi).size = b.size - (hi - lo) + s.size := by
  unfold cat3
  rw [ByteArray.size_append, ByteArray.size_append, ByteArray.size_extract, ByteArray.size_extract]
  omega
theorem ChRes.did {w w' : World} {E E' : Ed} {s : ByteArray} {lo hi : Nat} {err : Int} (h : ChRes w w' E s lo hi err E') (ho : EdOk E) (h1 : lo ≤ hi) (h2 : hi ≤ E.b.size) : Did w' E E' := by
  rcases h with ⟨_, _, rfl⟩ | ⟨h3, _, ⟨_, _, rfl⟩ | ⟨_, t, z, _, hz, rfl, h5⟩⟩
  · exact ⟨ho, .inl ⟨rfl, rfl, rfl, rfl, rfl⟩⟩
  · exact ⟨ho, .inl ⟨rfl, rfl, rfl, rfl, rfl⟩⟩
  · have hcs := cat3_size (s := s) h1 h2
    have hse : Seam (cat3 E.b s lo hi).data.toList z := by
      rw [hz]
      refine Seam.settled ?_
      rw [ba_len, hcs]
      omega
    exact ⟨⟨by show (cat3 E.b s lo hi).size ≤ 65536; omega, hse, hse⟩, .inr ⟨t, rfl, rfl, rfl, rfl, h5⟩⟩
theorem keyE_did {w w' : World} {E E' : Ed} {s : ByteArray} {md : Nat} {err : Int} (h : KRes w w' E (keyE E.b E.x E.y s md) err E') (ho : EdOk E) : Did w' E E' := by
  have hl := ho.le
  have h1 : min E.x E.y ≤ max E.x E.y := by omega
  have h2 : max E.x E.y ≤ E.b.size := by omega
  unfold keyE at h
  split at h
  · rename_i z hz
    obtain ⟨_, rfl⟩ := h
    have hs := goesE_seam ho.2.1 ho.2.2 hz
    refine ⟨⟨ho.1, hs, ?_⟩, .inl ⟨rfl, rfl, rfl, rfl, rfl⟩⟩
    show Seam E.b.data.toList (if shiftB md then E.y else z)
    split
    · exact ho.2.2
    · exact hs
  · split at h
    · refine ChRes.did h ho ?_ h2
      split
      · split
        · exact lrowE_le _ _
        · exact leftE_le _ _
      · exact h1
    · split at h
      · have h3 : min E.x E.y ≤ E.b.data.toList.length := by rw [ba_len]; omega
        have h4 := rwordE_ge E.b.data.toList h3
        have h5 := rightE_ge E.b.data.toList h3
        rw [ba_len] at h4 h5
        refine ChRes.did h ho ?_ ?_
        · split
          · split
            · exact h4.1
            · exact h5.1
          · exact h1
        · split
          · split
            · exact h4.2
            · exact h5.2
          · exact h2
      · split at h
        · obtain ⟨_, rfl⟩ := h
          refine ⟨⟨ho.1, ?_, Seam.zero _⟩, .inl ⟨rfl, rfl, rfl, rfl, rfl⟩⟩
          show Seam E.b.data.toList E.b.size
          rw [← ba_len]
          exact Seam.last _
        · split at h
          · obtain ⟨_, rfl⟩ := h
            exact ⟨ho, .inl ⟨rfl, rfl, rfl, rfl, rfl⟩⟩
          · exact ChRes.did h ho h1 h2
/-- Is an op left out by the law? -/
def skipE (o : Opr) : Bool := decide (o.d = 3) || decide (o.d = 4) || (decide (o.d = 1) && (decide (o.nm = ⟨#[122]⟩) || decide (o.nm = ⟨#[121]⟩))) || (decide (o.d = 0) && decide (5000 < o.s.size))
section
variable {w : World} {g : Nat} {E : Ed}
theorem Type_did (h : EdS w g E) (ho : EdOk E) (hk : E.k < 256) (s : ByteArray) (hs : s.size ≤ 1000000) : Calls Tryd.prog 13 #[.pointer (some ⟨g, 0, none⟩), .string s] w fun e w' => ∃ err E', e = .returned (.int .i64 err) ∧ EdS w' g E' ∧ ChRes w w' E s (min E.x E.y) (max E.x E.y) err E' ∧ w.grownBy w' (some g) := by
  have C := is_any h
  have HH := hid h
  have hl := ho.le
  obtain ⟨lo, hlo⟩ : ∃ z, min E.x E.y = z := ⟨_, rfl⟩
  obtain ⟨hi, hhi⟩ : ∃ z, max E.x E.y = z := ⟨_, rfl⟩
  have n1 : lo ≤ hi := by omega
  have n2 : hi ≤ E.b.size := by omega
  have CS := fun w1 (h1 : EdS w1 g E) => span_any h1
  rw [hlo, hhi] at CS
  rw [hlo, hhi]
  have HCS := hid CS
  have hb := ho.1
  clear h CS hlo hhi ho
  go_enter Tryd.func13, Tryd.ntmps13
  go_wp2_with fail
  with_reducible refine C.mono ?_
  rintro e w1 ⟨rfl, hb1⟩
  have h1 : EdS w1 g E := HH.out.on hb1
  have C2 := HCS.out w1 h1
  have H1 := hid h1
  clear C h1
  go_wp2_with fail
  with_reducible refine C2.mono ?_
  rintro e w2 ⟨rfl, hb2⟩
  have h2 : EdS w2 g E := H1.out.on hb2
  have C3 := change_all h2 s lo hi n1 n2 hb hs hk
  have hB2 := hb1.trans (hb2.mono hb1.size)
  clear C2
  go_wp2_with fail
  with_reducible refine C3.mono ?_
  rintro e w3 ⟨err, E', rfl, hE, hR, hG⟩
  have HE := hid hE
  have HR := hid hR
  have HG := hid hG
  clear C3 hE hR hG
  go_wp2
  go_ret
  refine ⟨err, E', rfl, HE.out, ?_, grown_below hB2 HG.out⟩
  rcases HR.out with h | ⟨h1, h2, h3 | ⟨h3, t, z, h4, h5⟩⟩
  · exact .inl h
  · exact .inr ⟨h1, h2, .inl h3⟩
  · exact .inr ⟨h1, h2, .inr ⟨h3, t, z, Nat.le_trans hB2.size h4, h5⟩⟩
end
end Go.Proofs.YtcfgpmmclijonaaDoor

/- Layer 25: one op of the law. -/
namespace Go.Proofs.YtcfgpmmclijonaaDoor
set_option linter.unusedVariables false
set_option linter.unusedSimpArgs false
set_option maxRecDepth 100000
open Go.RowKit Go.Shelf Go.Lib
set_option maxRecDepth 100000
set_option maxHeartbeats 8000000

def opV (o : Opr) : Value := .agg #[.int .i64 o.d, .string o.s, .string o.nm, .int .u8 (o.md : Int), .int .i64 o.n, .bool o.keep]
theorem Did.same {w' : World} {E : Ed} (ho : EdOk E) : Did w' E E := ⟨ho, .inl ⟨rfl, rfl, rfl, rfl, rfl⟩⟩
theorem do_any {w : World} {g : Nat} {E : Ed} (hT : Tabs w) (h : EdS w g E) (ho : EdOk E) (hk : E.k < 256) (o : Opr) (hs : skipE o = false) :
    Calls Tryd.prog 15 #[.pointer (some ⟨g, 0, none⟩), opV o] w fun e w' => e = .returned (.tuple #[]) ∧ ∃ E', EdS w' g E' ∧ Did w' E E' ∧ w.grownBy w' (some g) := by
  obtain ⟨d, s, nm, md, n, keep⟩ := o
  unfold skipE at hs
  unfold opV
  simp only at hs ⊢
  simp only [Bool.or_eq_false_iff, Bool.and_eq_false_iff, decide_eq_false_iff_not] at hs
  obtain ⟨⟨⟨s3, s4⟩, s1⟩, s0⟩ := hs
  have hB1 := (Below.refl w.heap.size w).alloc (Nat.le_refl _) (.cells #[.int .i64 d, .string s, .string nm, .int .u8 (md : Int), .int .i64 n, .bool keep] 43)
  have h1 : EdS (w.alloc (.cells #[.int .i64 d, .string s, .string nm, .int .u8 (md : Int), .int .i64 n, .bool keep] 43)) g E := h.on hB1
  have hT1 := tabs_on hT hB1
  have hl := ho.le
  have hb := ho.1
  by_cases d0 : d = 0
  · subst d0
    have C := Type_did h1 ho hk s (by
      rcases s0 with h | h
      · exact absurd rfl h
      · omega)
    have HO := hid ho
    clear h h1 hT hT1 ho s0 s1 s3 s4
    go_enter Tryd.func15, Tryd.ntmps15
    go_wp2_with fail
    with_reducible refine C.mono ?_
    rintro e w2 ⟨err, E', rfl, hE, hR, hG⟩
    have HE := hid hE
    have HR := hid (hR.did HO.out (by omega) (by omega))
    have HG := hid (grown_below hB1 hG)
    clear C hE hR hG
    go_wp2
    go_end0
    exact ⟨rfl, E', HE.out, HR.out, HG.out⟩
  have e0 : (d == 0) = false := beq_eq_false_iff_ne.2 d0
  by_cases d1 : d = 1
  · subst d1
    have s1' : ¬ nm = ⟨#[122]⟩ ∧ ¬ nm = ⟨#[121]⟩ := by
      rcases s1 with h | h
      · exact absurd rfl h
      · exact h
    obtain ⟨nz, ny⟩ := s1'
    by_cases hm : mayB ⟨nm.data.toList, md⟩ = true
    · have C := Key_any hT1 h1 hb hl.1 hl.2 hk nm md hm (by rw [decide_eq_false nz]; rfl) (by rw [decide_eq_false nz, decide_eq_false ny]; rfl)
      unfold KPost at C
      have HO := hid ho
      clear h h1 hT hT1 ho s0 s1 s3 s4 hm nz ny
      go_enter Tryd.func15, Tryd.ntmps15
      go_wp2_with fail
      with_reducible refine C.mono ?_
      rintro e w2 ⟨dd, err, E', rfl, hE, hG, _, hR⟩
      have HE := hid hE
      have HR := hid (keyE_did hR HO.out)
      have HG := hid (grown_below hB1 hG)
      clear C hE hR hG
      go_wp2
      go_end0
      exact ⟨rfl, E', HE.out, HR.out, HG.out⟩
    · have C := Key_bad hT1 h1 nm md (by simpa using hm)
      have HO := hid ho
      clear h h1 hT hT1 ho s0 s1 s3 s4 hm nz ny
      go_enter Tryd.func15, Tryd.ntmps15
      go_wp2_with fail
      with_reducible refine C.mono ?_
      rintro e w2 ⟨rfl, hE, hG⟩
      have HE := hid hE
      have HG := hid (grown_below hB1 hG)
      clear C hE hG
      go_wp2
      go_end0
      exact ⟨rfl, E, HE.out, Did.same HO.out, HG.out⟩
  have e1 : (d == 1) = false := beq_eq_false_iff_ne.2 d1
  by_cases d2 : d = 2
  · subst d2
    by_cases hr : 0 ≤ n ∧ n ≤ (E.b.size : Int)
    · obtain ⟨a, rfl⟩ := Int.eq_ofNat_of_zero_le hr.1
      have ha : a ≤ E.b.size := by omega
      have C := Move_any h1 (by omega) a ha keep
      have hse : Seam E.b.data.toList (settledE E.b.data.toList a) := Seam.settled (by rw [ba_len]; exact ha)
      generalize settledE E.b.data.toList a = z at *
      have hdid : ∀ w', Did w' E { E with x := z, y := if keep then E.y else z } := fun w' => by
        refine ⟨⟨hb, hse, ?_⟩, .inl ⟨rfl, rfl, rfl, rfl, rfl⟩⟩
        show Seam E.b.data.toList (if keep = true then E.y else z)
        split
        · exact ho.2.2
        · exact hse
      have HD := hid hdid
      clear h h1 hT hT1 ho s0 s1 s3 s4 hdid hse
      go_enter Tryd.func15, Tryd.ntmps15
      go_wp2_with fail
      with_reducible refine C.mono ?_
      rintro e w2 ⟨rfl, hE, hG⟩
      have HE := hid hE
      have HG := hid (grown_below hB1 hG)
      clear C hE hG
      go_wp2
      go_end0
      exact ⟨rfl, { E with x := z, y := if keep then E.y else z }, HE.out, HD.out _, HG.out⟩
    · have C := Move_bad h1 n (by omega) keep
      have HO := hid ho
      have H1 := hid h1
      clear h h1 hT hT1 ho s0 s1 s3 s4
      go_enter Tryd.func15, Tryd.ntmps15
      go_wp2_with fail
      with_reducible refine C.mono ?_
      rintro e w2 ⟨rfl, hb2⟩
      have HE := hid (H1.out.on hb2)
      have HG := hid (grown_below (hB1.trans (hb2.mono hB1.size)) (World.grownBy.refl _ _) : w.grownBy w2 (some g))
      clear C hb2
      go_wp2
      go_end0
      exact ⟨rfl, E, HE.out, Did.same HO.out, HG.out⟩
  have e2 : (d == 2) = false := beq_eq_false_iff_ne.2 d2
  have e3 : (d == 3) = false := beq_eq_false_iff_ne.2 s3
  have e4 : (d == 4) = false := beq_eq_false_iff_ne.2 s4
  have HO := hid ho
  have H1 := hid h1
  have HG := hid (grown_below hB1 (World.grownBy.refl _ _) : w.grownBy _ (some g))
  clear h h1 hT hT1 ho s0 s1
  go_enter Tryd.func15, Tryd.ntmps15
  go_wp2
  go_end0
  exact ⟨rfl, E, H1.out, Did.same HO.out, HG.out⟩
end Go.Proofs.YtcfgpmmclijonaaDoor

/- Layer 25: EditBack's first loop: what it carries. -/
namespace Go.Proofs.YtcfgpmmclijonaaDoor
set_option linter.unusedVariables false
set_option linter.unusedSimpArgs false
set_option maxRecDepth 100000
open Go.RowKit Go.Shelf Go.Lib
set_option maxRecDepth 100000
set_option maxHeartbeats 8000000

/-- Each step begins with the body with which the one ahead of it ended; the last one's is the body now. -/
def Lnk : ByteArray → List Stp → Prop
  | _, [] => True
  | b, s :: L => s.v.b = b ∧ Lnk s.u.b L
def Stp.tx (E : Ed) : Tx := ⟨E.b, E.x, E.y⟩
def pastT (S : List Stp) : List Tx := S.reverse.map Stp.u
theorem pastT_len (S : List Stp) : (pastT S).length = S.length := by simp [pastT]
theorem pastT_cons (s : Stp) (S : List Stp) : pastT (s :: S) = pastT S ++ [s.u] := by simp [pastT]
def TxOk (t : Tx) : Prop := t.b.size ≤ 65536 ∧ Seam t.b.data.toList t.x ∧ Seam t.b.data.toList t.y
structure S1 (w0 w : World) (g : Nat) (E : Ed) (S : List Stp) (A : Option Addr) (c : Nat) : Prop where
  hE : EdS w g E
  ok : EdOk E
  hq : E.q = none
  hm : E.m = 0
  hk : E.k = S.length
  ch : Chain w E.p S
  ln : Lnk E.b S
  ow : w.ownsRow w0.heap.size 31 3 (.slice A S.length c) S.length (txs (pastT S))
  bl : Below w0.heap.size w0 w
  al : ∀ s ∈ S, TxOk s.u
section
variable {B g : Nat} {w0 w w' : World} {E E' : Ed} {S : List Stp} {A : Option Addr} {c : Nat}
theorem S1.on (h : S1 w0 w g E S A c) (hb : Below w.heap.size w w') : S1 w0 w' g E S A c :=
  ⟨h.hE.on hb, h.ok, h.hq, h.hm, h.hk, h.ch.on hb, h.ln, own_below' h.ow hb, h.bl.trans (hb.mono h.bl.size), h.al⟩
theorem own_ne {n : Nat} {v : Value} {xs : List Value} (ho : w.ownsRow B 31 3 v n xs) {k : Nat} {cs : Array Value} {ty : TypeId} (hk : w.heap[k]? = some (.cells cs ty (0, 0))) (hty : ty ≠ 31) : v.ownBlock ≠ some k := by
  intro e
  rcases ho.2 with ⟨rfl, _⟩ | ⟨q, cap, cur, rfl, _, hh, _⟩
  · cases e
  · simp only [Value.ownBlock, Option.some.injEq] at e
    subst e
    rw [hk] at hh
    cases hh
    exact hty rfl
theorem Chain.row {n : Nat} {v : Value} {xs : List Value} (ho : w.ownsRow B 31 3 v n xs) (hg : w.grownBy w' v.ownBlock) : ∀ (L : List Stp) (a : Option Addr), Chain w a L → Chain w' a L
  | [], _, h => h
  | _ :: L, _, ⟨t, r, h1, h2, h3⟩ => by
    refine ⟨t, r, h1, ?_, Chain.row ho hg L r h3⟩
    have hne := own_ne ho h2 (by decide)
    unfold StAt at h2 ⊢
    rw [hg.block t (lt_of_block h2) (fun e => hne e.symm)]
    exact h2
theorem EdS.row {n : Nat} {v : Value} {xs : List Value} (ho : w.ownsRow B 31 3 v n xs) (hg : w.grownBy w' v.ownBlock) (h : EdS w g E) : EdS w' g E := by
  have hne := own_ne ho h (by decide)
  unfold EdS EdAt at h ⊢
  rw [hg.block g (lt_of_block h) (fun e => hne e.symm)]
  exact h
/-- Behind an op, ahead of the append. -/
structure S1' (w0 w : World) (g : Nat) (E E' : Ed) (S : List Stp) (A : Option Addr) (c : Nat) : Prop where
  hE : EdS w g E'
  ok : EdOk E'
  hq : E'.q = none
  hm : E'.m = 0
  ow : w.ownsRow w0.heap.size 31 3 (.slice A S.length c) S.length (txs (pastT S))
  bl : Below w0.heap.size w0 w
  al : ∀ s ∈ S, TxOk s.u
  eo : TxOk ⟨E.b, E.x, E.y⟩
  cs : (E'.b = E.b ∧ E'.k = S.length ∧ Chain w E'.p S ∧ Lnk E'.b S) ∨ (E'.k = S.length + 1 ∧ Chain w E'.p (⟨⟨E.b, E.x, E.y⟩, ⟨E'.b, E'.x, E'.y⟩⟩ :: S) ∧ Lnk E'.b (⟨⟨E.b, E.x, E.y⟩, ⟨E'.b, E'.x, E'.y⟩⟩ :: S))
theorem S1.did (h : S1 w0 w g E S A c) (hB : w0.heap.size ≤ g) (hd : Did w' E E') (hE' : EdS w' g E') (hg : w.grownBy w' (some g)) : S1' w0 w' g E E' S A c := by
  have hbl : Below w0.heap.size w0 w' := h.bl.grown hg h.bl.size (fun k hk => by
    injection hk with hk
    omega)
  have how : w'.ownsRow w0.heap.size 31 3 (.slice A S.length c) S.length (txs (pastT S)) := by
    refine h.ow.kept hg ?_
    have hne := own_ne h.ow h.hE (by decide)
    cases hv : (Value.slice A S.length c).ownBlock with
    | none => exact .inl rfl
    | some k => exact .inr (fun e => hne (by rw [hv, e]))
  have hch := Chain.grown h.hE hg _ _ h.ch
  obtain ⟨hok, hd | ⟨t, d1, d2, d3, d4, d5⟩⟩ := hd
  · obtain ⟨d1, d2, d3, d4, d5⟩ := hd
    exact ⟨hE', hok, by rw [d3, h.hq], by rw [d5, h.hm], how, hbl, h.al, h.ok, .inl ⟨d1, by rw [d4, h.hk], by rw [d2]; exact hch, by rw [d1]; exact h.ln⟩⟩
  · exact ⟨hE', hok, d2, d4, how, hbl, h.al, h.ok, .inr ⟨by rw [d3, h.hk], ⟨t, E.p, d1, d5, hch⟩, ⟨rfl, h.ln⟩⟩⟩
theorem S1'.on (h : S1' w0 w g E E' S A c) (hb : Below w.heap.size w w') : S1' w0 w' g E E' S A c :=
  ⟨h.hE.on hb, h.ok, h.hq, h.hm, own_below' h.ow hb, h.bl.trans (hb.mono h.bl.size), h.al, h.eo, h.cs.imp (fun ⟨a, b, c, d⟩ => ⟨a, b, c.on hb, d⟩) (fun ⟨a, b, c⟩ => ⟨a, b.on hb, c⟩)⟩
end
/-- While steps are undone and done again: j of them are undone. -/
structure S2 (w0 wS w : World) (g : Nat) (E : Ed) (S : List Stp) (j : Nat) : Prop where
  hE : EdS w g E
  ch : Chain w E.p (S.drop j)
  on : Chain w E.q (S.take j).reverse
  hk : E.k + j = S.length
  hm : E.m = j
  gr : wS.grownBy w (some g)
  bl : Below w0.heap.size w0 w
section
variable {w0 wS w w' : World} {g : Nat} {E : Ed} {S : List Stp} {j : Nat}
theorem S2.on_ (h : S2 w0 wS w g E S j) (hb : Below w.heap.size w w') : S2 w0 wS w' g E S j :=
  ⟨h.hE.on hb, h.ch.on hb, h.on.on hb, h.hk, h.hm, grown_then h.gr hb, h.bl.trans (hb.mono h.bl.size)⟩
theorem S2.row {B n : Nat} {v : Value} {xs : List Value} (h : S2 w0 wS w g E S j) (ho : w.ownsRow B 31 3 v n xs) (hg : w.grownBy w' v.ownBlock) (hB : wS.heap.size ≤ B) (hB2 : w0.heap.size ≤ wS.heap.size) : S2 w0 wS w' g E S j := by
  refine ⟨EdS.row ho hg h.hE, Chain.row ho hg _ _ h.ch, Chain.row ho hg _ _ h.on, h.hk, h.hm, ⟨hg.os.trans h.gr.os, hg.tape.trans h.gr.tape, hg.output.trans h.gr.output, Nat.le_trans h.gr.size hg.size, fun k hk hne => ?_⟩, h.bl.grown hg h.bl.size (fun k hk => Nat.le_trans hB2 (Nat.le_trans hB (own_ge ho k hk)))⟩
  rw [hg.block k (by have := h.gr.size; omega) (fun e => by have := own_ge ho k e.symm; omega)]
  exact h.gr.block k hk hne
theorem S2.undo (h : S2 w0 wS w g E S j) (hj : j < S.length) : ∃ t r, E.p = some ⟨t, 0, none⟩ ∧ StAt w t (S[j].u).b (S[j].u).x (S[j].u).y (S[j].v).b (S[j].v).x (S[j].v).y (.pointer r) ∧ g ≠ t ∧ ∀ t' w' k, w.grownBy w' (some g) → EdAt w' g (S[j].u).b (S[j].u).x (S[j].u).y (.pointer r) (.pointer (some ⟨t', 0, none⟩)) k (E.m + 1) → k + 1 = E.k →
    StAt w' t' (S[j].u).b (S[j].u).x (S[j].u).y (S[j].v).b (S[j].v).x (S[j].v).y (.pointer E.q) → w0.heap.size ≤ g → S2 w0 wS w' g ⟨(S[j].u).b, (S[j].u).x, (S[j].u).y, r, some ⟨t', 0, none⟩, k, j + 1⟩ S (j + 1) := by
  have hc := h.ch
  rw [List.drop_eq_getElem_cons hj] at hc
  obtain ⟨t, r, h1, h2, h3⟩ := hc
  refine ⟨t, r, h1, h2, ed_st_ne h.hE h2, fun t' w' k hg hE' hk hS hw => ⟨?_, Chain.grown h.hE hg _ _ h3, ?_, ?_, rfl, grown_two h.gr hg, h.bl.grown hg h.bl.size (fun k hk => by injection hk with hk; omega)⟩⟩
  · rw [h.hm] at hE'
    exact hE'
  · rw [List.take_succ_eq_append_getElem hj, List.reverse_append]
    exact ⟨t', E.q, rfl, hS, Chain.grown h.hE hg _ _ h.on⟩
  · show k + (j + 1) = S.length
    have := h.hk
    omega
theorem S2.redo (h : S2 w0 wS w g E S (j + 1)) (hj : j < S.length) : ∃ t r, E.q = some ⟨t, 0, none⟩ ∧ StAt w t (S[j].u).b (S[j].u).x (S[j].u).y (S[j].v).b (S[j].v).x (S[j].v).y (.pointer r) ∧ g ≠ t ∧ ∀ t' w' m, w.grownBy w' (some g) → EdAt w' g (S[j].v).b (S[j].v).x (S[j].v).y (.pointer (some ⟨t', 0, none⟩)) (.pointer r) (E.k + 1) m → m + 1 = E.m →
    StAt w' t' (S[j].u).b (S[j].u).x (S[j].u).y (S[j].v).b (S[j].v).x (S[j].v).y (.pointer E.p) → w0.heap.size ≤ g → S2 w0 wS w' g ⟨(S[j].v).b, (S[j].v).x, (S[j].v).y, some ⟨t', 0, none⟩, r, E.k + 1, m⟩ S j := by
  have hc := h.on
  rw [List.take_succ_eq_append_getElem hj, List.reverse_append] at hc
  obtain ⟨t, r, h1, h2, h3⟩ := hc
  refine ⟨t, r, h1, h2, ed_st_ne h.hE h2, fun t' w' m hg hE' hm hS hw => ⟨hE', ?_, Chain.grown h.hE hg _ _ h3, ?_, ?_, grown_two h.gr hg, h.bl.grown hg h.bl.size (fun k hk => by injection hk with hk; omega)⟩⟩
  · rw [List.drop_eq_getElem_cons hj]
    exact ⟨t', E.p, rfl, hS, Chain.grown h.hE hg _ _ h.ch⟩
  · show E.k + 1 + j = S.length
    have := h.hk
    omega
  · show m = j
    have := h.hm
    omega
end
theorem pastT_at (S : List Stp) (j : Nat) (hj : j < S.length) (h : S.length - 1 - j < (pastT S).length) : (pastT S)[S.length - 1 - j] = (S[j]).u := by
  simp only [pastT, List.getElem_map, List.getElem_reverse]
  congr 2
  omega
theorem Lnk.at : ∀ (S : List Stp) (b : ByteArray) (j : Nat) (h : j + 1 < S.length), Lnk b S → (S[j + 1].v).b = (S[j].u).b
  | [], _, _, h, _ => absurd h (by simp)
  | s :: L, b, 0, h, hl => by
    match L, h, hl with
    | s2 :: L, _, hl => exact hl.2.1
  | s :: L, b, j + 1, h, hl => by
    have := Lnk.at L s.u.b j (by simpa using h) hl.2
    simpa using this
theorem at_past {w0 wS w : World} {g : Nat} {E : Ed} {S : List Stp} {A : Option Addr} {c : Nat} (h : S1 w0 wS g E S A c) (hg : wS.grownBy w (some g)) : At wS.heap.size w A (txs (pastT S)) := by
  have ha := At.of_own h.ow
  have hne := own_ne h.ow h.hE (by decide)
  intro hn
  obtain ⟨q, o, rfl, hq, hc⟩ := ha hn
  refine ⟨q, o, rfl, hq, fun j v hj => ?_⟩
  rw [World.cell?_of_block (w := wS) (a := ⟨q, o + j, none⟩) (hg.block q hq (fun e => hne (by simp only [Value.ownBlock]; exact e)))]
  exact hc j v hj
theorem txEq_self (b : ByteArray) (x y : Int) : txEq b b x x y y = true := by simp [txEq]
theorem opr_cell {w : World} {b : Nat} {o : Opr} (h : w.heap[b]? = some (.cells #[.int .i64 o.d, .string o.s, .string o.nm, .int .u8 (o.md : Int), .int .i64 o.n, .bool o.keep] 43 (0, 0))) :
    w.cell? ⟨b, 0, none⟩ = some (.int .i64 o.d) ∧ w.cell? ⟨b, 1, none⟩ = some (.string o.s) ∧ w.cell? ⟨b, 2, none⟩ = some (.string o.nm) ∧ w.cell? ⟨b, 3, none⟩ = some (.int .u8 (o.md : Int)) ∧ w.cell? ⟨b, 4, none⟩ = some (.int .i64 o.n) ∧ w.cell? ⟨b, 5, none⟩ = some (.bool o.keep) :=
  ⟨by rw [blk_cell h]; rfl, by rw [blk_cell h]; rfl, by rw [blk_cell h]; rfl, by rw [blk_cell h]; rfl, by rw [blk_cell h]; rfl, by rw [blk_cell h]; rfl⟩
end Go.Proofs.YtcfgpmmclijonaaDoor
