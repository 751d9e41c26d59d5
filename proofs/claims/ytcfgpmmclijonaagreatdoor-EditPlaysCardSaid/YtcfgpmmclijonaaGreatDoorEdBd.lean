/- Layer 25: rows of texts and of ops; the past as a list; one op of the law. -/
import Derived.Test.YtcfgpmmclijonaaGreatDoorEdKy
namespace Go.Proofs.YtcfgpmmclijonaaGreatDoor
set_option linter.unusedVariables false
set_option linter.unusedSimpArgs false
set_option maxRecDepth 100000
open Go.RowKit Go.Shelf Go.Lib
set_option maxRecDepth 100000
set_option maxHeartbeats 8000000

structure Tx where
  b : ByteArray
  x : Nat
  y : Nat
def txs : List Tx → List Value
  | [] => []
  | t :: l => .string t.b :: .int .i64 (t.x : Int) :: .int .i64 (t.y : Int) :: txs l
theorem txs_len : ∀ l : List Tx, (txs l).length = l.length * 3
  | [] => rfl
  | k :: l => by simp only [txs, List.length_cons, txs_len l]; omega
theorem txs_append : ∀ l m : List Tx, txs (l ++ m) = txs l ++ txs m
  | [], _ => rfl
  | k :: l, m => by simp [txs, txs_append l m]
theorem txs_one : ∀ l : List Tx, ∀ v ∈ txs l, v.oneCell' = true
  | [], v, h => by cases h
  | k :: l, v, h => by
    simp only [txs, List.mem_cons] at h
    rcases h with rfl | rfl | rfl | h
    · rfl
    · rfl
    · rfl
    · exact txs_one l v h
theorem txs_at : ∀ (l : List Tx) (k : Nat) (h : k < l.length), (txs l)[k * 3]? = some (.string l[k].b) ∧ (txs l)[k * 3 + 1]? = some (.int .i64 (l[k].x : Int)) ∧ (txs l)[k * 3 + 2]? = some (.int .i64 (l[k].y : Int))
  | [], k, h => absurd h (by simp)
  | a :: l, 0, _ => by simp [txs]
  | a :: l, k + 1, h => by
    have := txs_at l k (by simpa using h)
    rw [show (k + 1) * 3 = k * 3 + 3 by omega]
    simpa [txs] using this
theorem At.tx {B : Nat} {w : World} {A : Option Addr} {l : List Tx} (h : At B w A (txs l)) {k : Nat} (hk : k < l.length) : ∃ g o, A = some ⟨g, o, none⟩ ∧ g < B ∧ w.cell? ⟨g, o + k * 3, none⟩ = some (.string l[k].b) ∧ w.cell? ⟨g, o + k * 3 + 1, none⟩ = some (.int .i64 (l[k].x : Int)) ∧ w.cell? ⟨g, o + k * 3 + 2, none⟩ = some (.int .i64 (l[k].y : Int)) := by
  obtain ⟨g, o, hA, hg, hc⟩ := h (by rw [txs_len]; omega)
  obtain ⟨h0, h1, h2⟩ := txs_at l k hk
  exact ⟨g, o, hA, hg, hc _ _ h0, by rw [Nat.add_assoc]; exact hc _ _ h1, by rw [Nat.add_assoc]; exact hc _ _ h2⟩
theorem info_text : (Tryz.prog.info? 39).map (fun i => (i.zero, i.size, i.bytes)) = some (some (.agg #[.string { data := #[] }, .int .i64 0, .int .i64 0]), 3, 32) := by kernel_rfl
section
variable {ops : Array Oper} {rest : List Oper} {o : Oper} {a : Act} {Q : Exit → Act → World → Prop} {w : World}
end

/-! ### ops -/
structure Opr where
  d : Int
  s : ByteArray
  nm : ByteArray
  md : Nat
  n : Int
  keep : Bool
def oprs : List Opr → List Value
  | [] => []
  | t :: l => .int .i64 t.d :: .string t.s :: .string t.nm :: .int .u8 (t.md : Int) :: .int .i64 t.n :: .bool t.keep :: oprs l
theorem oprs_len : ∀ l : List Opr, (oprs l).length = l.length * 6
  | [] => rfl
  | k :: l => by simp only [oprs, List.length_cons, oprs_len l]; omega
theorem oprs_at : ∀ (l : List Opr) (k : Nat) (h : k < l.length), (oprs l)[k * 6]? = some (.int .i64 l[k].d) ∧ (oprs l)[k * 6 + 1]? = some (.string l[k].s) ∧ (oprs l)[k * 6 + 2]? = some (.string l[k].nm) ∧ (oprs l)[k * 6 + 3]? = some (.int .u8 (l[k].md : Int)) ∧ (oprs l)[k * 6 + 4]? = some (.int .i64 l[k].n) ∧ (oprs l)[k * 6 + 5]? = some (.bool l[k].keep)
  | [], k, h => absurd h (by simp)
  | a :: l, 0, _ => by simp [oprs]
  | a :: l, k + 1, h => by
    have := oprs_at l k (by simpa using h)
    rw [show (k + 1) * 6 = k * 6 + 6 by omega]
    simpa [oprs] using this
theorem At.opr {B : Nat} {w : World} {A : Option Addr} {l : List Opr} (h : At B w A (oprs l)) {k : Nat} (hk : k < l.length) : ∃ g o, A = some ⟨g, o, none⟩ ∧ g < B ∧ w.cell? ⟨g, o + k * 6, none⟩ = some (.int .i64 l[k].d) ∧ w.cell? ⟨g, o + k * 6 + 1, none⟩ = some (.string l[k].s) ∧ w.cell? ⟨g, o + k * 6 + 2, none⟩ = some (.string l[k].nm) ∧
    w.cell? ⟨g, o + k * 6 + 3, none⟩ = some (.int .u8 (l[k].md : Int)) ∧ w.cell? ⟨g, o + k * 6 + 4, none⟩ = some (.int .i64 l[k].n) ∧ w.cell? ⟨g, o + k * 6 + 5, none⟩ = some (.bool l[k].keep) := by
  obtain ⟨g, o, hA, hg, hc⟩ := h (by rw [oprs_len]; omega)
  obtain ⟨h0, h1, h2, h3, h4, h5⟩ := oprs_at l k hk
  exact ⟨g, o, hA, hg, hc _ _ h0, by rw [Nat.add_assoc]; exact hc _ _ h1, by rw [Nat.add_assoc]; exact hc _ _ h2, by rw [Nat.add_assoc]; exact hc _ _ h3, by rw [Nat.add_assoc]; exact hc _ _ h4, by rw [Nat.add_assoc]; exact hc _ _ h5⟩

/-! ### the past -/
structure Stp where
  u : Tx
  v : Tx
def Chain (w : World) : Option Addr → List Stp → Prop
  | a, [] => a = none
  | a, s :: L => ∃ t r, a = some ⟨t, 0, none⟩ ∧ StAt w t s.u.b s.u.x s.u.y s.v.b s.v.x s.v.y (.pointer r) ∧ Chain w r L
theorem Chain.on {w w' : World} (hb : Below w.heap.size w w') : ∀ (L : List Stp) (a : Option Addr), Chain w a L → Chain w' a L
  | [], _, h => h
  | _ :: L, _, ⟨t, r, h1, h2, h3⟩ => ⟨t, r, h1, h2.on hb, Chain.on hb L r h3⟩
theorem Chain.grown {w w' : World} {g : Nat} {E : Ed} (hE : EdS w g E) (hg : w.grownBy w' (some g)) : ∀ (L : List Stp) (a : Option Addr), Chain w a L → Chain w' a L
  | [], _, h => h
  | _ :: L, _, ⟨t, r, h1, h2, h3⟩ => by
    refine ⟨t, r, h1, ?_, Chain.grown hE hg L r h3⟩
    have hne : g ≠ t := ed_st_ne hE h2
    unfold StAt at h2 ⊢
    rw [hg.block t (lt_of_block h2) (fun e => by injection e with e; exact hne e.symm)]
    exact h2
def EdOk (E : Ed) : Prop := E.b.size ≤ 65536 ∧ Seam E.b.data.toList E.x ∧ Seam E.b.data.toList E.y
theorem EdOk.le {E : Ed} (h : EdOk E) : E.x ≤ E.b.size ∧ E.y ≤ E.b.size := by
  have h1 := h.2.1.le
  have h2 := h.2.2.le
  rw [ba_len] at h1 h2
  exact ⟨h1, h2⟩
/-- What an op leaves: no step, the text as it was, or one step more. -/
def Did (w' : World) (E E' : Ed) : Prop := EdOk E' ∧
  ((E'.b = E.b ∧ E'.p = E.p ∧ E'.q = E.q ∧ E'.k = E.k ∧ E'.m = E.m) ∨
   (∃ t, E'.p = some ⟨t, 0, none⟩ ∧ E'.q = none ∧ E'.k = E.k + 1 ∧ E'.m = 0 ∧ StAt w' t E.b E.x E.y E'.b E'.x E'.y (.pointer E.p)))
theorem cat3_size {b s : ByteArray} {lo hi : Nat} (h1 : lo ≤ hi) (h2 : hi ≤ b.size) : (cat3 b s lo hi).size = b.size - (hi - lo) + s.size := by
  unfold cat3
  rw [ByteArray.size_append, ByteArray.size_append, ByteArray.size_extract, ByteArray.size_extract]
  omega
theorem ChRes.did {w w' : World} {E E' : Ed} {s : ByteArray} {lo hi : Nat} {err : Int} (h : ChRes w w' E s lo hi err E') (ho : EdOk E) (h1 : lo ≤ hi) (h2 : hi ≤ E.b.size) : Did w' E E' := by
  rcases h with ⟨_, _, rfl⟩ | ⟨h3, _, ⟨_, _, rfl⟩ | ⟨_, t, z, _, hz, rfl, h5⟩⟩
  · exact ⟨ho, .inl ⟨rfl, rfl, rfl, rfl, rfl⟩⟩
  · exact ⟨ho, .inl ⟨rfl, rfl, rfl, rfl, rfl⟩⟩
  · have hcs := cat3_size (s := s) h1 h2
    have hse : Seam (cat3 E.b s lo hi).data.toList z := by
      rw [hz]
      refine Seam.settled ?_
      rw [ba_len, hcs]
      omega
    exact ⟨⟨by show (cat3 E.b s lo hi).size ≤ 65536; omega, hse, hse⟩, .inr ⟨t, rfl, rfl, rfl, rfl, h5⟩⟩
theorem keyE_did {w w' : World} {E E' : Ed} {s : ByteArray} {md : Nat} {err : Int} (h : KRes w w' E (keyE E.b E.x E.y s md) err E') (ho : EdOk E) : Did w' E E' := by
  have hl := ho.le
  have h1 : min E.x E.y ≤ max E.x E.y := by omega
  have h2 : max E.x E.y ≤ E.b.size := by omega
  unfold keyE at h
  split at h
  · rename_i z hz
    obtain ⟨_, rfl⟩ := h
    have hs := goesE_seam ho.2.1 ho.2.2 hz
    refine ⟨⟨ho.1, hs, ?_⟩, .inl ⟨rfl, rfl, rfl, rfl, rfl⟩⟩
    show Seam E.b.data.toList (if shiftB md then E.y else z)
    split
    · exact ho.2.2
    · exact hs
  · split at h
    · refine ChRes.did h ho ?_ h2
      split
      · split
        · exact lrowE_le _ _
        · exact leftE_le _ _
      · exact h1
    · split at h
      · have h3 : min E.x E.y ≤ E.b.data.toList.length := by rw [ba_len]; omega
        have h4 := rwordE_ge E.b.data.toList h3
        have h5 := rightE_ge E.b.data.toList h3
        rw [ba_len] at h4 h5
        refine ChRes.did h ho ?_ ?_
        · split
          · split
            · exact h4.1
            · exact h5.1
          · exact h1
        · split
          · split
            · exact h4.2
            · exact h5.2
          · exact h2
      · split at h
        · obtain ⟨_, rfl⟩ := h
          refine ⟨⟨ho.1, ?_, Seam.zero _⟩, .inl ⟨rfl, rfl, rfl, rfl, rfl⟩⟩
          show Seam E.b.data.toList E.b.size
          rw [← ba_len]
          exact Seam.last _
        · split at h
          · obtain ⟨_, rfl⟩ := h
            exact ⟨ho, .inl ⟨rfl, rfl, rfl, rfl, rfl⟩⟩
          · exact ChRes.did h ho h1 h2
/-- Is an op left out by the law? -/
def skipE (o : Opr) : Bool := decide (o.d = 3) || decide (o.d = 4) || (decide (o.d = 1) && (decide (o.nm = ⟨#[122]⟩) || decide (o.nm = ⟨#[121]⟩))) || (decide (o.d = 0) && decide (5000 < o.s.size))
section
variable {w : World} {g : Nat} {E : Ed}
theorem Type_did (h : EdS w g E) (ho : EdOk E) (hk : E.k < 256) (s : ByteArray) (hs : s.size ≤ 1000000) : Calls Tryz.prog 7 #[.pointer (some ⟨g, 0, none⟩), .string s] w fun e w' => ∃ err E', e = .returned (.int .i64 err) ∧ EdS w' g E' ∧ ChRes w w' E s (min E.x E.y) (max E.x E.y) err E' ∧ w.grownBy w' (some g) := by
  have C := is_any h
  have HH := hid h
  have hl := ho.le
  obtain ⟨lo, hlo⟩ : ∃ z, min E.x E.y = z := ⟨_, rfl⟩
  obtain ⟨hi, hhi⟩ : ∃ z, max E.x E.y = z := ⟨_, rfl⟩
  have n1 : lo ≤ hi := by omega
  have n2 : hi ≤ E.b.size := by omega
  have CS := fun w1 (h1 : EdS w1 g E) => span_any h1
  rw [hlo, hhi] at CS
  rw [hlo, hhi]
  have HCS := hid CS
  have hb := ho.1
  clear h CS hlo hhi ho
  go_enter Tryz.func7, Tryz.ntmps7
  go_wp2_with fail
  with_reducible refine C.mono ?_
  rintro e w1 ⟨rfl, hb1⟩
  have h1 : EdS w1 g E := HH.out.on hb1
  have C2 := HCS.out w1 h1
  have H1 := hid h1
  clear C h1
  go_wp2_with fail
  with_reducible refine C2.mono ?_
  rintro e w2 ⟨rfl, hb2⟩
  have h2 : EdS w2 g E := H1.out.on hb2
  have C3 := change_all h2 s lo hi n1 n2 hb hs hk
  have hB2 := hb1.trans (hb2.mono hb1.size)
  clear C2
  go_wp2_with fail
  with_reducible refine C3.mono ?_
  rintro e w3 ⟨err, E', rfl, hE, hR, hG⟩
  have HE := hid hE
  have HR := hid hR
  have HG := hid hG
  clear C3 hE hR hG
  go_wp2
  go_ret
  refine ⟨err, E', rfl, HE.out, ?_, grown_below hB2 HG.out⟩
  rcases HR.out with h | ⟨h1, h2, h3 | ⟨h3, t, z, h4, h5⟩⟩
  · exact .inl h
  · exact .inr ⟨h1, h2, .inl h3⟩
  · exact .inr ⟨h1, h2, .inr ⟨h3, t, z, Nat.le_trans hB2.size h4, h5⟩⟩
end
end Go.Proofs.YtcfgpmmclijonaaGreatDoor

/- Layer 25: one op of the law. -/
namespace Go.Proofs.YtcfgpmmclijonaaGreatDoor
set_option linter.unusedVariables false
set_option linter.unusedSimpArgs false
set_option maxRecDepth 100000
open Go.RowKit Go.Shelf Go.Lib
set_option maxRecDepth 100000
set_option maxHeartbeats 8000000

def opV (o : Opr) : Value := .agg #[.int .i64 o.d, .string o.s, .string o.nm, .int .u8 (o.md : Int), .int .i64 o.n, .bool o.keep]
theorem Did.same {w' : World} {E : Ed} (ho : EdOk E) : Did w' E E := ⟨ho, .inl ⟨rfl, rfl, rfl, rfl, rfl⟩⟩
end Go.Proofs.YtcfgpmmclijonaaGreatDoor
