/- GeomPlaces, the plain law: place by place, small rectangles. No Go in sight. -/
import Derived.Test.YtoinjoihkodkeaaLawBack
import Derived.Test.YtoinjoihkodkeaaGeomN
namespace Go.Proofs.Ytoinjoihkodkeaa
set_option linter.unusedVariables false
set_option linter.unusedSimpArgs false
open Go.RowKit

def hasP (r : Rc) (p q : Int) : Bool := decide (r.x ≤ p) && (decide (p < r.x + r.w) && (decide (r.y ≤ q) && decide (q < r.y + r.h)))
theorem hasP_iff (r : Rc) (p q : Int) : hasP r p q = true ↔ r.x ≤ p ∧ p < r.x + r.w ∧ r.y ≤ q ∧ q < r.y + r.h := by simp [hasP]
def InR (r : Rc) : Prop := (-15 ≤ r.x ∧ r.x ≤ 15) ∧ (-15 ≤ r.y ∧ r.y ≤ 15) ∧ (0 ≤ r.w ∧ r.w ≤ 15) ∧ (0 ≤ r.h ∧ r.h ≤ 15)
theorem InR.may {r : Rc} (h : InR r) : may r = true := by
  obtain ⟨h1, h2, h3, h4⟩ := h
  exact (may_iff _ _ _ _).2 (by omega)
theorem InR.empty_iff {r : Rc} (h : InR r) : empty r = true ↔ r.w = 0 ∨ r.h = 0 := by
  simp [empty, h.may]
theorem InR.nonempty {r : Rc} (h : InR r) (he : empty r = false) : 1 ≤ r.w ∧ 1 ≤ r.h := by
  have := (Go.Proofs.Ytoinjoihkodkeaa.empty_iff r.x r.y r.w r.h).1 he
  omega
theorem hasP_zero (p q : Int) : hasP zero p q = false := by
  rw [Bool.eq_false_iff]
  intro h
  have := (hasP_iff _ _ _).1 h
  simp only [zero] at this
  omega
theorem hasP_empty {r : Rc} (h : InR r) (he : empty r = true) (p q : Int) : hasP r p q = false := by
  rw [Bool.eq_false_iff]
  intro h1
  have h2 := (hasP_iff _ _ _).1 h1
  have := h.empty_iff.1 he
  omega
theorem has_hasP {r : Rc} (h : InR r) (p q : Int) : has r p q = hasP r p q := by
  cases he : empty r
  · simp [has, he, hasP, Bool.and_assoc]
  · rw [hasP_empty h he]
    simp [has, he]
theorem hasP_fromR {x y r b p q : Int} (hx : -20000 ≤ x ∧ x ≤ 20000) (hy : -20000 ≤ y ∧ y ≤ 20000) (hr : -20000 ≤ r ∧ r ≤ 20000) (hb : -20000 ≤ b ∧ b ≤ 20000) : hasP (fromR x y r b) p q = true ↔ x ≤ p ∧ p < r ∧ y ≤ q ∧ q < b := by
  unfold fromR
  split
  · rw [hasP_zero]
    simp
    omega
  · rw [IntWalk.wrap64_in _ (by omega), IntWalk.wrap64_in _ (by omega), hasP_iff]
    simp only
    omega
theorem bool_iff {a b : Bool} (h : a = true ↔ b = true) : a = b := by
  cases a <;> cases b <;> simp_all
theorem meet_has {a b : Rc} (ha : InR a) (hb : InR b) (p q : Int) : hasP (meet a b) p q = (hasP a p q && hasP b p q) := by
  cases he : empty a
  · cases hf : empty b
    · have hA := ha.1; have hA2 := ha.2
      have hB := hb.1; have hB2 := hb.2
      rw [show meet a b = fromR (max a.x b.x) (max a.y b.y) (min (a.x + a.w) (b.x + b.w)) (min (a.y + a.h) (b.y + b.h)) by simp [meet, he, hf]]
      apply bool_iff
      rw [hasP_fromR (by omega) (by omega) (by omega) (by omega)]
      simp only [Bool.and_eq_true, hasP_iff]
      omega
    · rw [show meet a b = zero by simp [meet, hf], hasP_zero, hasP_empty hb hf, Bool.and_false]
  · rw [show meet a b = zero by simp [meet, he], hasP_zero, hasP_empty ha he, Bool.false_and]
theorem join_has {a b : Rc} (ha : InR a) (hb : InR b) (p q : Int) (h : (hasP a p q || hasP b p q) = true) : hasP (join a b) p q = true := by
  simp only [Bool.or_eq_true] at h
  cases he : empty a
  · cases hf : empty b
    · have hA := ha.1; have hA2 := ha.2
      have hB := hb.1; have hB2 := hb.2
      rw [show join a b = fromR (min a.x b.x) (min a.y b.y) (max (a.x + a.w) (b.x + b.w)) (max (a.y + a.h) (b.y + b.h)) by simp [join, he, hf]]
      rw [hasP_fromR (by omega) (by omega) (by omega) (by omega)]
      simp only [hasP_iff] at h
      omega
    · rw [show join a b = a by simp [join, he, hf]]
      rw [hasP_empty hb hf] at h
      simpa using h
  · rw [hasP_empty ha he] at h
    have hb1 : hasP b p q = true := by simpa using h
    cases hf : empty b
    · rw [show join a b = b by simp [join, he, hf]]
      exact hb1
    · rw [hasP_empty hb hf] at hb1
      cases hb1

def cnt (l : List Rc) (p q : Int) : Int := match l with
  | [] => 0
  | r :: l => (if hasP r p q then 1 else 0) + cnt l p q
theorem cnt_bd (l : List Rc) (p q : Int) : 0 ≤ cnt l p q ∧ cnt l p q ≤ l.length := by
  induction l with
  | nil => simp [cnt]
  | cons r l ih =>
    simp only [cnt, List.length_cons]
    split <;> omega
theorem cnt_append (l m : List Rc) (p q : Int) : cnt (l ++ m) p q = cnt l p q + cnt m p q := by
  induction l with
  | nil => simp [cnt]
  | cons r l ih => simp only [List.cons_append, cnt, ih]; omega
theorem cnt_take (l : List Rc) (k : Nat) (h : k < l.length) (p q : Int) : cnt (l.take (k + 1)) p q = cnt (l.take k) p q + (if hasP l[k] p q then 1 else 0) := by
  rw [List.take_succ_eq_append_getElem h, cnt_append]
  simp [cnt]
theorem cnt_filter (l : List Rc) (p q : Int) : cnt (l.filter nz) p q = cnt l p q := by
  induction l with
  | nil => rfl
  | cons r l ih =>
    simp only [List.filter_cons]
    split
    · simp only [cnt, ih]
    · rename_i h
      have : r = zero := by simpa [nz] using h
      simp only [cnt, ih, this, hasP_zero]
      simp
theorem less_cnt {a b : Rc} (ha : InR a) (hb : InR b) (p q : Int) : cnt (lessL a b) p q = if hasP a p q && !hasP b p q then 1 else 0 := by
  have hm := meet_has ha hb p q
  have h1 := ha.may
  have h2 := hb.may
  cases he : empty a
  · by_cases hz : meet a b = zero
    · rw [show lessL a b = [a] by simp [lessL, h1, h2, he, hz]]
      rw [hz, hasP_zero] at hm
      simp only [cnt]
      cases hA : hasP a p q <;> cases hB : hasP b p q <;> simp [hA, hB] at hm ⊢
    · rw [show lessL a b = (pieces a (meet a b)).filter nz by simp only [lessL, h1, h2, he, hz, Bool.and_self, Bool.not_true, Bool.false_eq_true, if_false]; rfl]
      rw [cnt_filter]
      have hmi := meet_in hz
      obtain ⟨hme, _, _⟩ := meet_ok hz
      have hmb := (empty_iff (meet a b).x (meet a b).y (meet a b).w (meet a b).h).1 hme
      generalize meet a b = m at *
      have hA := ha.1; have hA2 := ha.2
      have hma : hasP m p q = true → hasP a p q = true := by
        intro h
        rw [hm] at h
        simp at h
        exact h.1
      have key : (hasP a p q && !hasP b p q) = (hasP a p q && !hasP m p q) := by
        rw [hm]
        cases hasP a p q <;> cases hasP b p q <;> rfl
      rw [key]
      have c0 := @hasP_fromR a.x a.y (a.x + a.w) m.y p q (by omega) (by omega) (by omega) (by omega)
      have c1 := @hasP_fromR a.x m.y m.x (m.y + m.h) p q (by omega) (by omega) (by omega) (by omega)
      have c2 := @hasP_fromR (m.x + m.w) m.y (a.x + a.w) (m.y + m.h) p q (by omega) (by omega) (by omega) (by omega)
      have c3 := @hasP_fromR a.x (m.y + m.h) (a.x + a.w) (a.y + a.h) p q (by omega) (by omega) (by omega) (by omega)
      have ca := hasP_iff a p q
      have cm := hasP_iff m p q
      simp only [pieces, cnt]
      generalize hasP (fromR a.x a.y (a.x + a.w) m.y) p q = d0 at *
      generalize hasP (fromR a.x m.y m.x (m.y + m.h)) p q = d1 at *
      generalize hasP (fromR (m.x + m.w) m.y (a.x + a.w) (m.y + m.h)) p q = d2 at *
      generalize hasP (fromR a.x (m.y + m.h) (a.x + a.w) (a.y + a.h)) p q = d3 at *
      generalize hasP a p q = da at *
      generalize hasP m p q = dm at *
      clear key hm hma
      cases d0 <;> cases d1 <;> cases d2 <;> cases d3 <;> cases da <;> cases dm <;> simp at c0 c1 c2 c3 ca cm ⊢ <;> omega
  · rw [show lessL a b = [] by simp [lessL, h1, h2, he], hasP_empty ha he]
    rfl

structure PSt where
  any : Bool
  all : Bool
  over : Bool
  left : Int
  right : Int
  above : Int
  below : Int
def PSt.init : PSt := ⟨false, true, false, 99, -99, 99, -99⟩
def PSt.step (s : PSt) (x y : Int) (one two : Bool) : PSt :=
  ⟨s.any || (one || two), s.all && (!one || two), s.over || (one && two), if one || two then min s.left x else s.left, if one || two then max s.right x else s.right, if one || two then min s.above y else s.above, if one || two then max s.below y else s.below⟩
structure PInv (a b : Rc) (V : Int → Int → Prop) (s : PSt) : Prop where
  any : s.any = true ↔ ∃ p q, V p q ∧ (hasP a p q || hasP b p q) = true
  all : s.all = true ↔ ∀ p q, V p q → hasP a p q = true → hasP b p q = true
  over : s.over = true ↔ ∃ p q, V p q ∧ hasP a p q = true ∧ hasP b p q = true
  ends : ∀ p q, V p q → (hasP a p q || hasP b p q) = true → s.left ≤ p ∧ p ≤ s.right ∧ s.above ≤ q ∧ q ≤ s.below
  met : s.any = true → (∃ q, (hasP a s.left q || hasP b s.left q) = true) ∧ (∃ q, (hasP a s.right q || hasP b s.right q) = true) ∧ (∃ p, (hasP a p s.above || hasP b p s.above) = true) ∧ (∃ p, (hasP a p s.below || hasP b p s.below) = true)
  bnd : (-99 ≤ s.left ∧ s.left ≤ 99) ∧ (-99 ≤ s.right ∧ s.right ≤ 99) ∧ (-99 ≤ s.above ∧ s.above ≤ 99) ∧ (-99 ≤ s.below ∧ s.below ≤ 99)
  none : s.any = false → s.left = 99 ∧ s.right = -99 ∧ s.above = 99 ∧ s.below = -99
theorem PInv.congr {a b : Rc} {V V' : Int → Int → Prop} {s : PSt} (h : PInv a b V s) (e : ∀ p q, V p q ↔ V' p q) : PInv a b V' s := by
  have : V = V' := by
    funext p q
    exact propext (e p q)
  rw [← this]
  exact h
theorem PInv.start (a b : Rc) : PInv a b (fun _ _ => False) PSt.init := by
  refine ⟨?_, ?_, ?_, ?_, ?_, ?_, ?_⟩ <;> simp [PSt.init]
theorem PInv.step {a b : Rc} {V : Int → Int → Prop} {s : PSt} (h : PInv a b V s) {x y : Int} (hx : -99 ≤ x ∧ x ≤ 99) (hy : -99 ≤ y ∧ y ≤ 99) : PInv a b (fun p q => V p q ∨ (p = x ∧ q = y)) (s.step x y (hasP a x y) (hasP b x y)) := by
  obtain ⟨h1, h2, h3, h4, h5, h6, h7⟩ := h
  refine ⟨?_, ?_, ?_, ?_, ?_, ?_, ?_⟩
  · simp only [PSt.step]
    constructor
    · intro h
      rcases Bool.or_eq_true_iff.1 h with h | h
      · obtain ⟨p, q, hV, hc⟩ := h1.1 h
        exact ⟨p, q, .inl hV, hc⟩
      · exact ⟨x, y, .inr ⟨rfl, rfl⟩, h⟩
    · rintro ⟨p, q, hV | ⟨rfl, rfl⟩, hc⟩
      · rw [h1.2 ⟨p, q, hV, hc⟩]
        rfl
      · rw [hc, Bool.or_true]
  · simp only [PSt.step, Bool.and_eq_true]
    constructor
    · rintro ⟨ha, hb⟩ p q (hV | ⟨rfl, rfl⟩) hc
      · exact h2.1 ha p q hV hc
      · rw [hc] at hb
        simpa using hb
    · intro h
      refine ⟨h2.2 fun p q hV hc => h p q (.inl hV) hc, ?_⟩
      cases hA : hasP a x y
      · rfl
      · rw [h x y (.inr ⟨rfl, rfl⟩) hA]
        rfl
  · simp only [PSt.step]
    constructor
    · intro h
      rcases Bool.or_eq_true_iff.1 h with h | h
      · obtain ⟨p, q, hV, hc⟩ := h3.1 h
        exact ⟨p, q, .inl hV, hc⟩
      · exact ⟨x, y, .inr ⟨rfl, rfl⟩, by simpa using h⟩
    · rintro ⟨p, q, hV | ⟨rfl, rfl⟩, hc, hd⟩
      · rw [h3.2 ⟨p, q, hV, hc, hd⟩]
        rfl
      · rw [hc, hd]
        simp
  · simp only [PSt.step]
    rintro p q (hV | ⟨rfl, rfl⟩) hc
    · have := h4 p q hV hc
      split <;> omega
    · simp only [hc, if_true]
      omega
  · simp only [PSt.step]
    intro h
    cases hc : (hasP a x y || hasP b x y)
    · rw [hc, Bool.or_false] at h
      simpa using h5 h
    · simp only [if_true]
      have pick : ∀ (f : Int → Bool) (u v w : Int), (s.any = true → f u = true) → f v = true → (w = u ∨ w = v) → (s.any = false → w = v) → f w = true := by
        intro f u v w hu hv hw hn
        cases hs : s.any
        · rw [hn hs]
          exact hv
        · rcases hw with rfl | rfl
          · exact hu hs
          · exact hv
      refine ⟨?_, ?_, ?_, ?_⟩
      · cases hs : s.any
        · have := h7 hs
          rw [show min s.left x = x by omega]
          exact ⟨y, hc⟩
        · rcases (by omega : min s.left x = s.left ∨ min s.left x = x) with e | e <;> rw [e]
          · exact (h5 hs).1
          · exact ⟨y, hc⟩
      · cases hs : s.any
        · have := h7 hs
          rw [show max s.right x = x by omega]
          exact ⟨y, hc⟩
        · rcases (by omega : max s.right x = s.right ∨ max s.right x = x) with e | e <;> rw [e]
          · exact (h5 hs).2.1
          · exact ⟨y, hc⟩
      · cases hs : s.any
        · have := h7 hs
          rw [show min s.above y = y by omega]
          exact ⟨x, hc⟩
        · rcases (by omega : min s.above y = s.above ∨ min s.above y = y) with e | e <;> rw [e]
          · exact (h5 hs).2.2.1
          · exact ⟨x, hc⟩
      · cases hs : s.any
        · have := h7 hs
          rw [show max s.below y = y by omega]
          exact ⟨x, hc⟩
        · rcases (by omega : max s.below y = s.below ∨ max s.below y = y) with e | e <;> rw [e]
          · exact (h5 hs).2.2.2
          · exact ⟨x, hc⟩
  · simp only [PSt.step]
    obtain ⟨b1, b2, b3, b4⟩ := h6
    refine ⟨?_, ?_, ?_, ?_⟩ <;> split <;> omega
  · simp only [PSt.step]
    intro h
    have hn : s.any = false ∧ (hasP a x y || hasP b x y) = false := by simpa [Bool.or_eq_false_iff] using h
    rw [hn.2]
    simpa using h7 hn.1
/-- What has been visited ahead of the place x of the row y. -/
def vis (y x : Int) (p q : Int) : Prop := -18 ≤ p ∧ p < 34 ∧ -18 ≤ q ∧ (q < y ∨ (q = y ∧ p < x))
theorem vis_start (p q : Int) : False ↔ vis (-18) (-18) p q := by
  unfold vis
  constructor
  · intro h
    cases h
  · intro h
    omega
theorem vis_next {y x : Int} (hy : -18 ≤ y) (hx : -18 ≤ x ∧ x < 34) (p q : Int) : (vis y x p q ∨ (p = x ∧ q = y)) ↔ vis y (x + 1) p q := by
  unfold vis
  omega
theorem vis_row {y : Int} (p q : Int) (hy : -18 ≤ y) : vis y 34 p q ↔ vis (y + 1) (-18) p q := by
  unfold vis
  omega
theorem vis_all {r : Rc} (h : InR r) {p q : Int} (hp : hasP r p q = true) : vis 34 (-18) p q := by
  have := (hasP_iff r p q).1 hp
  obtain ⟨h1, h2, h3, h4⟩ := h
  unfold vis
  omega
theorem places_over {a b : Rc} (ha : InR a) (hb : InR b) {s : PSt} (h : PInv a b (vis 34 (-18)) s) : over a b = s.over := by
  apply bool_iff
  rw [h.over]
  constructor
  · intro ho
    have hz : ¬ meet a b = zero := by simpa [over] using ho
    obtain ⟨hme, _, _⟩ := meet_ok hz
    have hmb := (empty_iff (meet a b).x (meet a b).y (meet a b).w (meet a b).h).1 hme
    have hc : hasP (meet a b) (meet a b).x (meet a b).y = true := (hasP_iff _ _ _).2 (by omega)
    rw [meet_has ha hb] at hc
    simp only [Bool.and_eq_true] at hc
    exact ⟨_, _, vis_all ha hc.1, hc.1, hc.2⟩
  · rintro ⟨p, q, _, h1, h2⟩
    have hc := meet_has ha hb p q
    rw [h1, h2] at hc
    simp only [over, Bool.not_eq_true', decide_eq_false_iff_not]
    intro e
    rw [e, hasP_zero] at hc
    cases hc
theorem meet_comm (a b : Rc) : meet b a = meet a b := by
  unfold meet
  cases empty a <;> cases empty b <;> simp [Int.max_comm, Int.min_comm]
theorem places_over' {a b : Rc} (ha : InR a) (hb : InR b) {s : PSt} (h : PInv a b (vis 34 (-18)) s) : over b a = s.over := by
  rw [← places_over ha hb h]
  simp [over, meet_comm]
theorem places_in {a b : Rc} (ha : InR a) (hb : InR b) {s : PSt} (h : PInv a b (vis 34 (-18)) s) : inR a b = s.all := by
  apply bool_iff
  rw [h.all]
  constructor
  · intro hi p q _ hp
    cases he : empty a
    · simp [inR, he] at hi
      have hc := meet_has ha hb p q
      rw [hi, hp] at hc
      simpa using hc
    · rw [hasP_empty ha he] at hp
      cases hp
  · intro hall
    cases he : empty a
    · have hn := ha.nonempty he
      have c1 : hasP a a.x a.y = true := (hasP_iff _ _ _).2 (by omega)
      have c2 : hasP a (a.x + a.w - 1) (a.y + a.h - 1) = true := (hasP_iff _ _ _).2 (by omega)
      have d1 := (hasP_iff _ _ _).1 (hall _ _ (vis_all ha c1) c1)
      have d2 := (hasP_iff _ _ _).1 (hall _ _ (vis_all ha c2) c2)
      have hf : empty b = false := by
        rw [Bool.eq_false_iff]
        intro hf
        have := hb.empty_iff.1 hf
        omega
      have hm := meet_full he hf
      have e : meet a b = a := by
        rw [hm, if_neg (by omega)]
        obtain ⟨ax, ay, aw, ah⟩ := a
        simp only [Rc.mk.injEq] at *
        omega
      simp [inR, e]
    · simp [inR, he]
theorem places_join {a b : Rc} (ha : InR a) (hb : InR b) {s : PSt} (h : PInv a b (vis 34 (-18)) s) : join a b = if s.any then ⟨s.left, s.above, s.right - s.left + 1, s.below - s.above + 1⟩ else zero := by
  have cov : ∀ p q, (hasP a p q || hasP b p q) = true → vis 34 (-18) p q := by
    intro p q hc
    rcases Bool.or_eq_true_iff.1 hc with h1 | h1
    · exact vis_all ha h1
    · exact vis_all hb h1
  have corner : ∀ r : Rc, InR r → empty r = false → hasP r r.x r.y = true ∧ hasP r (r.x + r.w - 1) (r.y + r.h - 1) = true := by
    intro r hr he
    have hn := hr.nonempty he
    exact ⟨(hasP_iff _ _ _).2 (by omega), (hasP_iff _ _ _).2 (by omega)⟩
  cases hs : s.any
  · rw [if_neg (by simp)]
    have no : ∀ p q, (hasP a p q || hasP b p q) = false := by
      intro p q
      rw [Bool.eq_false_iff]
      intro hc
      have := h.any.2 ⟨p, q, cov p q hc, hc⟩
      rw [hs] at this
      cases this
    have ea : empty a = true := by
      cases he : empty a
      · have := no a.x a.y
        rw [(corner a ha he).1] at this
        simp at this
      · rfl
    have eb : empty b = true := by
      cases he : empty b
      · have := no b.x b.y
        rw [(corner b hb he).1] at this
        simp at this
      · rfl
    simp [join, ea, eb]
  · rw [if_pos rfl]
    obtain ⟨⟨q1, m1⟩, ⟨q2, m2⟩, ⟨q3, m3⟩, ⟨q4, m4⟩⟩ := h.met hs
    have ends := fun p q hc => h.ends p q (cov p q hc) hc
    simp only [Bool.or_eq_true] at m1 m2 m3 m4 ends
    cases he : empty a
    · have ca := corner a ha he
      have ea1 := ends _ _ (.inl ca.1)
      have ea2 := ends _ _ (.inl ca.2)
      have hna := ha.nonempty he
      cases hf : empty b
      · have cb := corner b hb hf
        have eb1 := ends _ _ (.inr cb.1)
        have eb2 := ends _ _ (.inr cb.2)
        have hnb := hb.nonempty hf
        have hA := ha.1; have hA2 := ha.2
        have hB := hb.1; have hB2 := hb.2
        rw [show join a b = fromR (min a.x b.x) (min a.y b.y) (max (a.x + a.w) (b.x + b.w)) (max (a.y + a.h) (b.y + b.h)) by simp [join, he, hf]]
        unfold fromR
        rw [if_neg (by omega), IntWalk.wrap64_in _ (by omega), IntWalk.wrap64_in _ (by omega)]
        simp only [hasP_iff] at m1 m2 m3 m4
        simp only [Rc.mk.injEq]
        omega
      · rw [show join a b = a by simp [join, he, hf]]
        simp only [hasP_empty hb hf, Bool.false_eq_true, or_false, hasP_iff] at m1 m2 m3 m4
        obtain ⟨ax, ay, aw, ah⟩ := a
        simp only [Rc.mk.injEq] at *
        omega
    · simp only [hasP_empty ha he, Bool.false_eq_true, false_or] at m1 m2 m3 m4 ends
      cases hf : empty b
      · have cb := corner b hb hf
        have eb1 := ends _ _ cb.1
        have eb2 := ends _ _ cb.2
        have hnb := hb.nonempty hf
        rw [show join a b = b by simp [join, he, hf]]
        simp only [hasP_iff] at m1 m2 m3 m4
        obtain ⟨bx, by_, bw, bh⟩ := b
        simp only [Rc.mk.injEq] at *
        omega
      · rw [hasP_empty hb hf] at m1
        cases m1
end Go.Proofs.Ytoinjoihkodkeaa
