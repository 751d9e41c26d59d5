/- A region's lexical order, checked at less cost: each operation writes a slot of its own; who looks at one stands behind it, bound to it. -/
import Derived.Test.YtoiondgcjbdonaaDoorBase
namespace Go.Proofs.YtoiondgcjbdonaaDoor
set_option linter.unusedVariables false
set_option linter.unusedSimpArgs false
set_option maxRecDepth 100000
open Go.RowKit

def okTmp (o : Oper) (k : Nat) (t : Tmp) : Nat → List (Option Tmp) → Bool
  | _, [] => true
  | i, d :: r => (d != some t || (decide (i < k) && o.after.any fun e => Region.binds .any e && e.on == i)) && okTmp o k t (i + 1) r
theorem okTmp_spec {o : Oper} {k : Nat} {t : Tmp} : ∀ (ds : List (Option Tmp)) (i0 : Nat), okTmp o k t i0 ds = true → ∀ i, ds[i]? = some (some t) → i0 + i < k ∧ (o.after.any fun e => Region.binds .any e && e.on == i0 + i) = true := by
  intro ds
  induction ds with
  | nil => intro i0 _ i h; simp at h
  | cons d r ih =>
    intro i0 h i hi
    simp only [okTmp, Bool.and_eq_true, Bool.or_eq_true, decide_eq_true_eq] at h
    cases i with
    | zero =>
      simp only [List.getElem?_cons_zero, Option.some.injEq] at hi
      subst hi
      rcases h.1 with h1 | h1
      · simp at h1
      · exact ⟨h1.1, by simpa using h1.2⟩
    | succ i =>
      have := ih (i0 + 1) h.2 i (by simpa using hi)
      rw [show i0 + (i + 1) = i0 + 1 + i by omega]
      exact this
def ndO : List (Option Tmp) → Bool
  | [] => true
  | d :: r => r.all (fun x => x != d) && ndO r
theorem ndO_spec : ∀ (ds : List (Option Tmp)), ndO ds = true → ∀ (i j : Nat) (a b : Option Tmp), i < j → ds[i]? = some a → ds[j]? = some b → b ≠ a := by
  intro ds
  induction ds with
  | nil => intro _ i j a b _ h; simp at h
  | cons d r ih =>
    intro h i j a b hij ha hb
    simp only [ndO, Bool.and_eq_true, List.all_eq_true] at h
    obtain ⟨j, rfl⟩ : ∃ m, j = m + 1 := ⟨j - 1, by omega⟩
    have hb' : r[j]? = some b := by simpa using hb
    cases i with
    | zero =>
      simp only [List.getElem?_cons_zero, Option.some.injEq] at ha
      subst ha
      have := h.1 b (List.mem_of_getElem? hb')
      simpa using this
    | succ i => exact ih h.2 i j a b (by omega) (by simpa using ha) hb'
def lexOne (ops : Array Oper) (ds : List (Option Tmp)) (k : Nat) (o : Oper) : Bool :=
  o.after.all (fun e => !Region.binds .any e || decide (e.on < k)) && o.dst.isSome && (o.looksAt ops).all fun t => okTmp o k t 0 ds
def lexAll (ops : Array Oper) (ds : List (Option Tmp)) : Nat → List Oper → Bool
  | _, [] => true
  | k, o :: r => lexOne ops ds k o && lexAll ops ds (k + 1) r
theorem lexAll_spec {ops : Array Oper} {ds : List (Option Tmp)} : ∀ (l : List Oper) (k0 : Nat), lexAll ops ds k0 l = true → ∀ k o, l[k]? = some o → lexOne ops ds (k0 + k) o = true := by
  intro l
  induction l with
  | nil => intro _ _ k o h; simp at h
  | cons x r ih =>
    intro k0 h k o ho
    simp only [lexAll, Bool.and_eq_true] at h
    cases k with
    | zero =>
      simp only [List.getElem?_cons_zero, Option.some.injEq] at ho
      subst ho
      exact h.1
    | succ k =>
      have := ih (k0 + 1) h.2 k o (by simpa using ho)
      rwa [show k0 + (k + 1) = k0 + 1 + k by omega]
def lexC (l : List Oper) : Bool := Region.noSelect l.toArray && ndO (l.map (·.dst)) && lexAll l.toArray (l.map (·.dst)) 0 l

theorem lexC_spec {l : List Oper} (h : lexC l = true) : Region.lexB .any l.toArray = true := by
  simp only [lexC, Bool.and_eq_true] at h
  obtain ⟨⟨hs, hn⟩, ha⟩ := h
  have hall := lexAll_spec l 0 ha
  simp only [Nat.zero_add] at hall
  have hnd := ndO_spec _ hn
  have key : ∀ (fuel k : Nat) (ls : Array Bool), k + fuel = l.length → (∀ j b, j < l.length → ls.getD j b = decide (j < k)) → ls.size = l.length → Region.lexFrom .any l.toArray fuel k ls = true := by
    intro fuel
    induction fuel with
    | zero =>
      intro k ls hk hls hsz
      show (Region.ready .any l.toArray ls).isEmpty = true
      rw [List.isEmpty_iff]
      unfold Region.ready
      rw [List.filter_eq_nil_iff]
      intro i hi
      have hi := List.mem_range.1 hi
      have : ls.getD i true = true := by rw [hls i true (by simpa using hi)]; simp; simp at hi; omega
      simp [this]
    | succ fuel ih =>
      intro k ls hk hls hsz
      have hkl : k < l.length := by omega
      obtain ⟨o, ho⟩ : ∃ o, l[k]? = some o := ⟨l[k], by simp [hkl]⟩
      have h1 := hall k o ho
      simp only [lexOne, Bool.and_eq_true, Array.all_eq_true'] at h1
      obtain ⟨⟨h1, hd⟩, hlk⟩ := h1
      have ho' : l.toArray[k]? = some o := by simpa using ho
      obtain ⟨d, hd⟩ := Option.isSome_iff_exists.1 hd
      simp only [Region.lexFrom, Bool.and_eq_true]
      refine ⟨⟨?_, ?_⟩, ?_⟩
      · rw [List.contains_iff_mem]
        unfold Region.ready
        rw [List.mem_filter]
        refine ⟨List.mem_range.2 (by simpa using hkl), ?_⟩
        simp only [ho', Option.map_some, Option.getD_some, Bool.and_eq_true, Array.all_eq_true']
        refine ⟨by rw [hls k true hkl]; simp, fun e he => ?_⟩
        have := h1 e he
        cases hb : Region.binds .any e
        · simp
        · rw [hb] at this
          have hek : e.on < k := by simpa using this
          simp [hls e.on false (by omega), hek]
      · unfold Region.free
        simp only [ho', List.all_eq_true, List.mem_range]
        intro j hj
        have hj : j < l.length := by simpa using hj
        by_cases e : j = k
        · simp [e]
        · by_cases hlt : j < k
          · simp [hls j true hj, hlt]
          · have hkj : k < j := by omega
            obtain ⟨oj, hoj⟩ : ∃ o, l[j]? = some o := ⟨l[j], by simp [hj]⟩
            have hoj' : l.toArray[j]? = some oj := by simpa using hoj
            have h2 := hall j oj hoj
            simp only [lexOne, Bool.and_eq_true] at h2
            obtain ⟨⟨_, hdj⟩, hlj⟩ := h2
            obtain ⟨dj, hdj⟩ := Option.isSome_iff_exists.1 hdj
            have mk : (l.map (·.dst))[k]? = some (some d) := by simp [ho, hd]
            have mj : (l.map (·.dst))[j]? = some (some dj) := by simp [hoj, hdj]
            simp only [hoj', Bool.or_eq_true]
            right
            by_cases hin : d ∈ oj.looksAt l.toArray
            · left
              have := okTmp_spec _ 0 (List.all_eq_true.1 hlj d hin) k mk
              simpa using this.2
            · right
              have hne : dj ≠ d := fun e => hnd k j (some d) (some dj) hkj mk mj (by rw [e])
              have hno : dj ∉ o.looksAt l.toArray := fun hin2 => by
                have := okTmp_spec _ 0 (List.all_eq_true.1 hlk dj hin2) j mj
                omega
              unfold Oper.apart
              simp only [hd, hdj]
              simp [hin, hno, hne]
      · refine ih (k + 1) _ (by omega) (fun j b hj => ?_) (by simpa using hsz)
        by_cases e : j = k
        · subst e
          simp [Array.getD, hsz, hj]
        · rw [getD_set_ne b (Ne.symm e), hls j b hj]
          simp
          omega
  unfold Region.lexB
  rw [hs, Bool.true_and]
  refine key l.toArray.size 0 _ (by simp) (fun j b hj => ?_) (by simp)
  simp [Array.getD, hj]
end Go.Proofs.YtoiondgcjbdonaaDoor
