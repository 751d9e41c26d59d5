/- Layer 5: a stable sort of numbers by a weight, in plain Lean: runs, rotations, merges. -/
import Derived.Sort.LotA
namespace Go.Proofs.YtoiondgcjbdonaaDoor
set_option linter.unusedVariables false
set_option linter.unusedSimpArgs false
set_option maxRecDepth 100000
open Go.Sort

/-- The strict order of numbers: by weight, then by number. -/
def Rk (key : Nat → Nat) (x y : Nat) : Prop := key x < key y ∨ (key x = key y ∧ x < y)
def lk (key : Nat → Nat) (x y : Nat) : Bool := decide (key x < key y)
theorem lk_true {key x y} : lk key x y = true ↔ key x < key y := by simp [lk]
theorem lk_false {key x y} : lk key x y = false ↔ key y ≤ key x := by simp [lk]
instance {key : Nat → Nat} {x y : Nat} : Decidable (Rk key x y) := by unfold Rk; infer_instance
theorem Rk.trans {key x y z} (h : Rk key x y) (h' : Rk key y z) : Rk key x z := by unfold Rk at *; omega
theorem Rk.irrefl {key x} : ¬ Rk key x x := by unfold Rk; omega

/-- A stretch is in order. -/
def Srt (key : Nat → Nat) (d : Array Nat) (a b : Nat) : Prop := ∀ i j, a ≤ i → i < j → j < b → Rk key d[i]! d[j]!
/-- The numbers of one stretch are below those of another one. -/
def Lft (d : Array Nat) (a m m' b : Nat) : Prop := ∀ i j, a ≤ i → i < m → m' ≤ j → j < b → d[i]! < d[j]!
def Inn (d : Array Nat) (a b x : Nat) : Prop := ∃ i, a ≤ i ∧ i < b ∧ d[i]! = x
/-- The same but for a stretch. -/
def Out (d d' : Array Nat) (a b : Nat) : Prop := ∀ k, k < a ∨ b ≤ k → d'[k]! = d[k]!

/-- What a merge leaves. -/
structure Mrg (key : Nat → Nat) (d d' : Array Nat) (a b : Nat) : Prop where
  size : d'.size = d.size
  out : Out d d' a b
  srt : Srt key d' a b
  inn : ∀ x, Inn d' a b x ↔ Inn d a b x

theorem Srt.sub {key d a b a' b'} (h : Srt key d a b) (ha : a ≤ a') (hb : b' ≤ b) : Srt key d a' b' := fun i j h1 h2 h3 => h i j (by omega) h2 (by omega)
theorem Srt.out {key d d' a b c e} (h : Srt key d a b) (ho : Out d d' c e) (hd : b ≤ c ∨ e ≤ a) : Srt key d' a b := fun i j h1 h2 h3 => by
  rw [ho i (by omega), ho j (by omega)]; exact h i j h1 h2 h3
theorem Srt.one {key d a b} (h : b ≤ a + 1) : Srt key d a b := fun i j h1 h2 h3 => by omega
theorem Inn.out {d d' a b c e x} (ho : Out d d' c e) (hd : b ≤ c ∨ e ≤ a) : Inn d' a b x ↔ Inn d a b x := by
  constructor
  · rintro ⟨i, h1, h2, h3⟩; exact ⟨i, h1, h2, by rw [← ho i (by omega)]; exact h3⟩
  · rintro ⟨i, h1, h2, h3⟩; exact ⟨i, h1, h2, by rw [ho i (by omega)]; exact h3⟩
theorem Inn.split {d a m b x} (h1 : a ≤ m) (h2 : m ≤ b) : Inn d a b x ↔ Inn d a m x ∨ Inn d m b x := by
  constructor
  · rintro ⟨i, g1, g2, g3⟩
    rcases Nat.lt_or_ge i m with h | h
    · exact .inl ⟨i, g1, h, g3⟩
    · exact .inr ⟨i, h, g2, g3⟩
  · rintro (⟨i, g1, g2, g3⟩ | ⟨i, g1, g2, g3⟩)
    · exact ⟨i, g1, by omega, g3⟩
    · exact ⟨i, by omega, g2, g3⟩
theorem Inn.at {d : Array Nat} {a b i : Nat} (h1 : a ≤ i) (h2 : i < b) : Inn d a b d[i]! := ⟨i, h1, h2, rfl⟩

/-! ### Rotations -/
/-- What lies at k when the stretches [a, m) and [m, b) have changed places. -/
def rotv (d : Array Nat) (a m b k : Nat) : Nat :=
  if a ≤ k ∧ k < a + (b - m) then d[k + (m - a)]! else if a + (b - m) ≤ k ∧ k < b then d[k - (b - m)]! else d[k]!
def Rot (d d' : Array Nat) (a m b : Nat) : Prop := d'.size = d.size ∧ ∀ k, d'[k]! = rotv d a m b k
theorem Rot.out {d d' a m b} (h : Rot d d' a m b) (h1 : a ≤ m) (h2 : m ≤ b) : Out d d' a b := fun k hk => by
  rw [h.2 k]; unfold rotv; rw [if_neg (by omega), if_neg (by omega)]
theorem Rot.left {d d' a m b} (h : Rot d d' a m b) {k : Nat} (h1 : a ≤ k) (h2 : k < a + (b - m)) : d'[k]! = d[k + (m - a)]! := by
  rw [h.2 k]; unfold rotv; rw [if_pos ⟨h1, h2⟩]
theorem Rot.right {d d' a m b} (h : Rot d d' a m b) {k : Nat} (h1 : a + (b - m) ≤ k) (h2 : k < b) : d'[k]! = d[k - (b - m)]! := by
  rw [h.2 k]; unfold rotv; rw [if_neg (by omega), if_pos ⟨h1, h2⟩]
theorem Rot.refl_left {d a b} (h : a ≤ b) : Rot d d a a b := ⟨rfl, fun k => by
  unfold rotv
  split
  · congr 1; omega
  · split
    · omega
    · rfl⟩
theorem Rot.refl_right {d a b} (h : a ≤ b) : Rot d d a b b := ⟨rfl, fun k => by
  unfold rotv
  split
  · omega
  · split
    · congr 1; omega
    · rfl⟩
theorem Rot.inn {d d' a m b} (h : Rot d d' a m b) (h1 : a ≤ m) (h2 : m ≤ b) (x : Nat) : Inn d' a b x ↔ Inn d a b x := by
  constructor
  · rintro ⟨i, g1, g2, g3⟩
    rcases Nat.lt_or_ge i (a + (b - m)) with g | g
    · rw [h.left g1 g] at g3; exact ⟨_, by omega, by omega, g3⟩
    · rw [h.right g g2] at g3; exact ⟨_, by omega, by omega, g3⟩
  · rintro ⟨i, g1, g2, g3⟩
    rcases Nat.lt_or_ge i m with g | g
    · refine ⟨i + (b - m), by omega, by omega, ?_⟩
      rw [h.right (by omega) (by omega)]
      rw [show i + (b - m) - (b - m) = i by omega]; exact g3
    · refine ⟨i - (m - a), by omega, by omega, ?_⟩
      rw [h.left (by omega) (by omega)]
      rw [show i - (m - a) + (m - a) = i by omega]; exact g3

/-- n places from a on and n places from b on have changed places. -/
def Swr (d d' : Array Nat) (a b n : Nat) : Prop := d'.size = d.size ∧ ∀ k, d'[k]! = if a ≤ k ∧ k < a + n then d[k + (b - a)]! else if b ≤ k ∧ k < b + n then d[k - (b - a)]! else d[k]!
theorem Swr.start {d a b} : Swr d d a b 0 := ⟨rfl, fun k => by rw [if_neg (by omega), if_neg (by omega)]⟩
theorem Swr.step {d d' a b n} (h : Swr d d' a b n) (hab : a + n < b) (hb : b + n < d.size) : Swr d (swp d' (a + n) (b + n)) a b (n + 1) := by
  refine ⟨by rw [size_swp]; exact h.1, fun k => ?_⟩
  rw [swp_get d' (by rw [h.1]; omega) (by rw [h.1]; omega)]
  by_cases h1 : k = b + n
  · subst h1
    rw [if_pos rfl, if_neg (by omega), if_pos (by omega), h.2 (a + n), if_neg (by omega), if_neg (by omega)]
    congr 1; omega
  · rw [if_neg h1]
    by_cases h2 : k = a + n
    · subst h2
      rw [if_pos rfl, if_pos (by omega), h.2 (b + n), if_neg (by omega), if_neg (by omega)]
      congr 1; omega
    · rw [if_neg h2, h.2 k]
      by_cases h3 : a ≤ k ∧ k < a + n
      · rw [if_pos h3, if_pos (by omega)]
      · rw [if_neg h3, if_neg (show ¬ (a ≤ k ∧ k < a + (n + 1)) by omega)]
        by_cases h4 : b ≤ k ∧ k < b + n
        · rw [if_pos h4, if_pos (show b ≤ k ∧ k < b + (n + 1) by omega)]
        · rw [if_neg h4, if_neg (show ¬ (b ≤ k ∧ k < b + (n + 1)) by omega)]

/-- The rotation's rounds: what is still to do. -/
theorem rot_more {d d' : Array Nat} {m i j : Nat} (h : Swr d d' (m - i) m j) (hi : i ≤ m) (hij : j < i) {e : Array Nat} (he : Rot d' e (m - (i - j)) m (m + j)) : Rot d e (m - i) m (m + j) := by
  refine ⟨by rw [he.1, h.1], fun k => ?_⟩
  rw [he.2 k]
  unfold rotv
  by_cases h1 : m - i ≤ k ∧ k < m - i + (m + j - m)
  · rw [if_pos h1, if_neg (by omega), if_neg (by omega), h.2 k, if_pos (by omega)]
  · rw [if_neg h1]
    by_cases h2 : m - (i - j) ≤ k ∧ k < m - (i - j) + (m + j - m)
    · rw [if_pos h2, if_pos (by omega), h.2]
      by_cases h3 : m ≤ k + (m - (m - (i - j)))
      · rw [if_neg (by omega), if_pos (by omega)]; congr 1; omega
      · rw [if_neg (by omega), if_neg (by omega)]; congr 1; omega
    · rw [if_neg h2]
      by_cases h3 : m - (i - j) + (m + j - m) ≤ k ∧ k < m + j
      · rw [if_pos h3, if_pos (by omega), h.2]
        rw [if_neg (by omega)]
        by_cases h4 : m ≤ k - (m + j - m)
        · rw [if_pos (by omega)]; omega
        · rw [if_neg (by omega)]
      · rw [if_neg h3, if_neg (by omega), h.2 k, if_neg (by omega), if_neg (by omega)]
theorem rot_less {d d' : Array Nat} {m i j : Nat} (h : Swr d d' (m - i) (m + j - i) i) (hi : i ≤ m) (hij : i < j) {e : Array Nat} (he : Rot d' e (m - i) m (m + (j - i))) : Rot d e (m - i) m (m + j) := by
  refine ⟨by rw [he.1, h.1], fun k => ?_⟩
  rw [he.2 k]
  unfold rotv
  by_cases h1 : m - i ≤ k ∧ k < m - i + (m + (j - i) - m)
  · rw [if_pos h1, if_pos (by omega), h.2]
    rw [if_neg (by omega), if_neg (by omega)]
  · rw [if_neg h1]
    by_cases h2 : m - i + (m + (j - i) - m) ≤ k ∧ k < m + (j - i)
    · rw [if_pos h2, if_pos (by omega), h.2, if_pos (by omega)]
      congr 1; omega
    · rw [if_neg h2, h.2 k]
      by_cases h3 : m + j - i ≤ k ∧ k < m + j - i + i
      · rw [if_neg (by omega), if_pos h3, if_neg (by omega), if_pos (by omega)]
        congr 1; omega
      · rw [if_neg (by omega), if_neg h3, if_neg (by omega), if_neg (by omega)]
theorem rot_same {d d' : Array Nat} {m i : Nat} (h : Swr d d' (m - i) m i) (hi : i ≤ m) : Rot d d' (m - i) m (m + i) := by
  refine ⟨h.1, fun k => ?_⟩
  rw [h.2 k]
  unfold rotv
  by_cases h1 : m - i ≤ k ∧ k < m - i + i
  · rw [if_pos h1, if_pos (by omega)]
  · rw [if_neg h1]
    by_cases h2 : m ≤ k ∧ k < m + i
    · rw [if_pos h2, if_neg (by omega), if_pos (by omega)]; congr 1; omega
    · rw [if_neg h2, if_neg (by omega), if_neg (by omega)]

/-- A number moves up through its right neighbours. -/
theorem rot_up {d d' : Array Nat} {a k : Nat} (h : Rot d d' a (a + 1) (k + 1)) (hak : a ≤ k) (hk : k + 1 < d.size) : Rot d (swp d' k (k + 1)) a (a + 1) (k + 2) := by
  refine ⟨by rw [size_swp]; exact h.1, fun q => ?_⟩
  rw [swp_get d' (by rw [h.1]; omega) (by rw [h.1]; omega)]
  unfold rotv
  have h2 := h.2
  unfold rotv at h2
  by_cases h1 : q = k + 1
  · subst h1
    rw [if_pos rfl, if_neg (by omega), if_pos (by omega), h2 k]
    rw [if_neg (by omega), if_pos (by omega)]; congr 1; omega
  · rw [if_neg h1]
    by_cases h3 : q = k
    · subst h3
      rw [if_pos rfl, if_pos (by omega), h2, if_neg (by omega), if_neg (by omega)]
      congr 1; omega
    · rw [if_neg h3, h2 q]
      by_cases h4 : a ≤ q ∧ q < a + (k + 1 - (a + 1))
      · rw [if_pos h4, if_pos (by omega)]
      · rw [if_neg h4, if_neg (by omega), if_neg (by omega), if_neg (by omega)]
/-- A number moves down through its left neighbours. -/
theorem rot_down {d d' : Array Nat} {m k : Nat} (h : Rot d d' (k + 1) m (m + 1)) (hk : k < m) (hm : m < d.size) : Rot d (swp d' (k + 1) k) k m (m + 1) := by
  refine ⟨by rw [size_swp]; exact h.1, fun q => ?_⟩
  rw [swp_get d' (by rw [h.1]; omega) (by rw [h.1]; omega)]
  unfold rotv
  have h2 := h.2
  unfold rotv at h2
  by_cases h1 : q = k
  · subst h1
    rw [if_pos rfl, if_pos (by omega), h2, if_pos (by omega)]
    congr 1; omega
  · rw [if_neg h1]
    by_cases h3 : q = k + 1
    · subst h3
      rw [if_pos rfl, if_neg (by omega), if_pos (by omega), h2, if_neg (by omega), if_neg (by omega)]
      congr 1; omega
    · rw [if_neg h3, h2 q]
      by_cases h4 : k + 1 + (m + 1 - m) ≤ q ∧ q < m + 1
      · rw [if_neg (by omega), if_pos h4, if_neg (by omega), if_pos (by omega)]
      · rw [if_neg (by omega), if_neg h4, if_neg (by omega), if_neg (by omega)]

/-! ### Merges -/
/-- What a merge asks. -/
structure Two (key : Nat → Nat) (d : Array Nat) (a m b : Nat) : Prop where
  am : a ≤ m
  mb : m ≤ b
  bs : b ≤ d.size
  left : Srt key d a m
  right : Srt key d m b
  lft : Lft d a m m b

theorem Two.le {key d a m b} (h : Two key d a m b) {i j : Nat} (h1 : a ≤ i) (h2 : i < m) (h3 : m ≤ j) (h4 : j < b) (hn : lk key d[j]! d[i]! = false) : Rk key d[i]! d[j]! := by
  have := h.lft i j h1 h2 h3 h4
  rw [lk_false] at hn
  unfold Rk; omega
theorem Two.gt {key : Nat → Nat} {d : Array Nat} {i j : Nat} (hn : lk key d[j]! d[i]! = true) : Rk key d[j]! d[i]! := by
  rw [lk_true] at hn
  unfold Rk; omega

/-- The two ends of what a merge rotates: [a, s) [m, e) are below [s, m) [e, b). -/
structure Mid (key : Nat → Nat) (d : Array Nat) (a s m e b : Nat) : Prop where
  as : a ≤ s
  sm : s ≤ m
  me : m ≤ e
  eb : e ≤ b
  tail : ∀ i j, s ≤ i → i < m → m ≤ j → j < e → Rk key d[j]! d[i]!
  head : ∀ i j, a ≤ i → i < s → e ≤ j → j < b → Rk key d[i]! d[j]!

theorem Mid.low {key d a s m e b d'} (h : Mid key d a s m e b) (t : Two key d a m b) (r : Rot d d' s m e) : Two key d' a s (s + (e - m)) := by
  have := h.as; have := h.sm; have := h.me; have := h.eb; have := t.bs
  refine ⟨by omega, by omega, by rw [r.1]; omega, ?_, ?_, ?_⟩
  · exact (t.left.sub (by omega) (by omega)).out (r.out (by omega) (by omega)) (by omega)
  · intro i j h1 h2 h3
    rw [r.left h1 (by omega), r.left (by omega) h3]
    exact t.right _ _ (by omega) (by omega) (by omega)
  · intro i j h1 h2 h3 h4
    rw [r.out (by omega) (by omega) i (by omega), r.left h3 h4]
    exact t.lft _ _ (by omega) (by omega) (by omega) (by omega)
theorem Mid.high {key d a s m e b d'} (h : Mid key d a s m e b) (t : Two key d a m b) (r : Rot d d' s m e) : Two key d' (s + (e - m)) e b := by
  have := h.as; have := h.sm; have := h.me; have := h.eb; have := t.bs
  refine ⟨by omega, by omega, by rw [r.1]; omega, ?_, ?_, ?_⟩
  · intro i j h1 h2 h3
    rw [r.right h1 (by omega), r.right (by omega) h3]
    exact t.left _ _ (by omega) (by omega) (by omega)
  · exact (t.right.sub (by omega) (by omega)).out (r.out (by omega) (by omega)) (by omega)
  · intro i j h1 h2 h3 h4
    rw [r.right h1 h2, r.out (by omega) (by omega) j (by omega)]
    exact t.lft _ _ (by omega) (by omega) (by omega) (by omega)
/-- All of the low half is below all of the high half. -/
theorem Mid.cross {key d a s m e b d'} (h : Mid key d a s m e b) (t : Two key d a m b) (r : Rot d d' s m e) {i j : Nat} (h1 : a ≤ i) (h2 : i < s + (e - m)) (h3 : s + (e - m) ≤ j) (h4 : j < b) : Rk key d'[i]! d'[j]! := by
  have := h.as; have := h.sm; have := h.me; have := h.eb; have := t.bs
  have ro := r.out h.sm h.me
  rcases Nat.lt_or_ge i s with g1 | g1
  · rw [ro i (by omega)]
    rcases Nat.lt_or_ge j e with g2 | g2
    · rw [r.right h3 g2]; exact t.left _ _ (by omega) (by omega) (by omega)
    · rw [ro j (by omega)]; exact h.head _ _ (by omega) (by omega) (by omega) (by omega)
  · rw [r.left g1 h2]
    rcases Nat.lt_or_ge j e with g2 | g2
    · rw [r.right h3 g2]; exact h.tail _ _ (by omega) (by omega) (by omega) (by omega)
    · rw [ro j (by omega)]; exact t.right _ _ (by omega) (by omega) (by omega)

theorem Two.out {key d d' a m b c e} (t : Two key d a m b) (ho : Out d d' c e) (hd : b ≤ c ∨ e ≤ a) (hs : d'.size = d.size) : Two key d' a m b := by
  have := t.am; have := t.mb
  refine ⟨t.am, t.mb, by rw [hs]; exact t.bs, t.left.out ho (by omega), t.right.out ho (by omega), fun i j h1 h2 h3 h4 => ?_⟩
  rw [ho i (by omega), ho j (by omega)]
  exact t.lft i j h1 h2 h3 h4
/-- A merge of none is no change. -/
theorem Two.mrg_left {key d a b} (t : Two key d a a b) : Mrg key d d a b := ⟨rfl, fun _ _ => rfl, t.right, fun _ => Iff.rfl⟩
theorem Two.mrg_right {key d a b} (t : Two key d a b b) : Mrg key d d a b := ⟨rfl, fun _ _ => rfl, t.left, fun _ => Iff.rfl⟩

/-- Both halves merged are the whole merged. -/
theorem Mid.join {key d a s m e b d' d1 d2} (h : Mid key d a s m e b) (t : Two key d a m b) (r : Rot d d' s m e)
    (m1 : Mrg key d' d1 a (s + (e - m))) (m2 : Mrg key d1 d2 (s + (e - m)) b) : Mrg key d d2 a b := by
  have := h.as; have := h.sm; have := h.me; have := h.eb; have := t.bs
  generalize hM : s + (e - m) = M at m1 m2
  have ro := r.out h.sm h.me
  refine ⟨by rw [m2.size, m1.size, r.1], fun k hk => ?_, ?_, fun x => ?_⟩
  · rw [m2.out k (by omega), m1.out k (by omega), ro k (by omega)]
  · intro i j h1 h2 h3
    rcases Nat.lt_or_ge j M with g | g
    · exact (m1.srt.out m2.out (.inl (Nat.le_refl _))) i j h1 h2 g
    · rcases Nat.lt_or_ge i M with g1 | g1
      · obtain ⟨i', hi1, hi2, hi3⟩ := (m1.inn _).1 ((Inn.out m2.out (.inl (Nat.le_refl _))).1 (Inn.at h1 g1))
        obtain ⟨j', hj1, hj2, hj3⟩ := (Inn.out m1.out (.inr (Nat.le_refl _))).1 ((m2.inn _).1 (Inn.at g h3))
        rw [← hi3, ← hj3]
        exact h.cross t r hi1 (by omega) (by omega) hj2
      · exact m2.srt i j g1 h2 h3
  · rw [Inn.split (m := M) (by omega) (by omega), m2.inn x, Inn.out m2.out (.inl (Nat.le_refl _)), m1.inn x, Inn.out m1.out (.inr (Nat.le_refl _)), ← Inn.split (by omega) (by omega)]
    constructor
    · intro hx
      rcases (Inn.split (m := s) (by omega) (by omega)).1 hx with g | g
      · exact (Inn.split (m := s) (by omega) (by omega)).2 (.inl ((Inn.out ro (.inl (Nat.le_refl _))).1 g))
      · rcases (Inn.split (m := e) (by omega) (by omega)).1 g with g | g
        · exact (Inn.split (m := s) (by omega) (by omega)).2 (.inr ((Inn.split (m := e) (by omega) (by omega)).2 (.inl ((r.inn (by omega) (by omega) x).1 g))))
        · exact (Inn.split (m := s) (by omega) (by omega)).2 (.inr ((Inn.split (m := e) (by omega) (by omega)).2 (.inr ((Inn.out ro (.inr (Nat.le_refl _))).1 g))))
    · intro hx
      rcases (Inn.split (m := s) (by omega) (by omega)).1 hx with g | g
      · exact (Inn.split (m := s) (by omega) (by omega)).2 (.inl ((Inn.out ro (.inl (Nat.le_refl _))).2 g))
      · rcases (Inn.split (m := e) (by omega) (by omega)).1 g with g | g
        · exact (Inn.split (m := s) (by omega) (by omega)).2 (.inr ((Inn.split (m := e) (by omega) (by omega)).2 (.inl ((r.inn (by omega) (by omega) x).2 g))))
        · exact (Inn.split (m := s) (by omega) (by omega)).2 (.inr ((Inn.split (m := e) (by omega) (by omega)).2 (.inr ((Inn.out ro (.inr (Nat.le_refl _))).2 g))))

/-- One number on the left: its place is found by the numbers below it. -/
theorem Two.one_left {key d a b i d'} (t : Two key d a (a + 1) b) (h1 : a + 1 ≤ i) (h2 : i ≤ b) (hb : ∀ h, a + 1 ≤ h → h < i → lk key d[h]! d[a]! = true) (ha : ∀ h, i ≤ h → h < b → lk key d[h]! d[a]! = false) (r : Rot d d' a (a + 1) i) : Mrg key d d' a b := by
  have md : Mid key d a a (a + 1) i b := ⟨Nat.le_refl _, by omega, h1, h2, fun x y g1 g2 g3 g4 => by
    obtain rfl : x = a := by omega
    exact Two.gt (hb y g3 g4), fun x y g1 g2 g3 g4 => by omega⟩
  have m1 : Mrg key d' d' a (a + (i - (a + 1))) := (md.low t r).mrg_left
  have m2 : Mrg key d' d' (a + (i - (a + 1))) b := ⟨rfl, fun _ _ => rfl, fun x y g1 g2 g3 => by
    rcases Nat.lt_or_ge x i with g | g
    · obtain rfl : x = i - 1 := by omega
      rw [r.right (by omega) (by omega), show i - 1 - (i - (a + 1)) = a by omega, r.out (by omega) (by omega) y (by omega)]
      exact t.le (Nat.le_refl _) (by omega) (by omega) g3 (ha y (by omega) g3)
    · exact (md.high t r).right x y g g2 g3, fun _ => Iff.rfl⟩
  exact md.join t r m1 m2
/-- One number on the right. -/
theorem Two.one_right {key d a m i d'} (t : Two key d a m (m + 1)) (h1 : a ≤ i) (h2 : i ≤ m) (hb : ∀ h, a ≤ h → h < i → lk key d[m]! d[h]! = false) (ha : ∀ h, i ≤ h → h < m → lk key d[m]! d[h]! = true) (r : Rot d d' i m (m + 1)) : Mrg key d d' a (m + 1) := by
  have md : Mid key d a i m (m + 1) (m + 1) := ⟨h1, h2, by omega, Nat.le_refl _, fun x y g1 g2 g3 g4 => by
    obtain rfl : y = m := by omega
    exact Two.gt (ha x g1 g2), fun x y g1 g2 g3 g4 => by omega⟩
  have m1 : Mrg key d' d' a (i + (m + 1 - m)) := ⟨rfl, fun _ _ => rfl, fun x y g1 g2 g3 => by
    rcases Nat.lt_or_ge y i with g | g
    · exact (md.low t r).left x y g1 g2 g
    · obtain rfl : y = i := by omega
      rw [r.left (Nat.le_refl _) (by omega), r.out (by omega) (by omega) x (by omega), show y + (m - y) = m by omega]
      exact t.le g1 (by omega) (Nat.le_refl _) (by omega) (hb x g1 g2), fun _ => Iff.rfl⟩
  have m2 : Mrg key d' d' (i + (m + 1 - m)) (m + 1) := (md.high t r).mrg_right
  exact md.join t r m1 m2

/-- Where the binary search of a merge ends. -/
theorem Two.mid {key d a m b mid lo hi s} (t : Two key d a m b) (h0 : 2 * mid ≤ a + b) (h0' : a + b ≤ 2 * mid + 1) (hc : (mid < m ∧ lo = mid + m - b ∧ hi = mid) ∨ (m ≤ mid ∧ lo = a ∧ hi = m))
    (hs1 : lo ≤ s) (hs2 : s ≤ hi) (hb : lo < s → lk key d[mid + m - 1 - (s - 1)]! d[s - 1]! = false) (ha : s < hi → lk key d[mid + m - 1 - s]! d[s]! = true) : Mid key d a s m (mid + m - s) b := by
  have := t.am; have := t.mb
  refine ⟨by omega, by omega, by omega, by omega, fun i j g1 g2 g3 g4 => ?_, fun i j g1 g2 g3 g4 => ?_⟩
  · have h1 : s < hi := by omega
    have h2 : Rk key d[mid + m - 1 - s]! d[s]! := Two.gt (ha h1)
    have h3 : Rk key d[j]! d[s]! := by
      by_cases h : j = mid + m - 1 - s
      · subst h; exact h2
      · exact (t.right _ _ g3 (by omega) (by omega)).trans h2
    by_cases h : i = s
    · subst h; exact h3
    · exact h3.trans (t.left _ _ (by omega) (by omega) g2)
  · have h1 : lo < s := by omega
    have h2 : Rk key d[s - 1]! d[mid + m - s]! := t.le (by omega) (by omega) (by omega) (by omega) (by rw [show mid + m - s = mid + m - 1 - (s - 1) by omega]; exact hb h1)
    have h3 : Rk key d[s - 1]! d[j]! := by
      by_cases h : j = mid + m - s
      · subst h; exact h2
      · exact h2.trans (t.right _ _ (by omega) (by omega) g4)
    by_cases h : i = s - 1
    · subst h; exact h3
    · exact (t.left _ _ g1 (by omega) (by omega)).trans h3

/-! ### Insertion -/
theorem ins_inner_at {key d a i} (t : Two key d a i (i + 1)) : ∀ (j : Nat) (d' : Array Nat), a ≤ j → j ≤ i → Rot d d' j i (i + 1) → (∀ h, j ≤ h → h < i → lk key d[i]! d[h]! = true) → Mrg key d (insInner (lk key) a j d') a (i + 1) := by
  intro j
  induction j with
  | zero =>
    intro d' h1 h2 r ha
    exact t.one_right h1 h2 (fun h g1 g2 => by omega) ha r
  | succ j ih =>
    intro d' h1 h2 r ha
    have := t.bs
    have e1 : d'[j + 1]! = d[i]! := by rw [r.left (Nat.le_refl _) (by omega)]; congr 1; omega
    have e2 : d'[j]! = d[j]! := r.out h2 (by omega) j (by omega)
    rw [insInner, e1, e2]
    by_cases hc : j + 1 > a ∧ lk key d[i]! d[j]! = true
    · rw [if_pos (by simpa using hc)]
      refine ih _ (by omega) (by omega) (rot_down r (by omega) (by omega)) (fun h g1 g2 => ?_)
      by_cases hj : h = j
      · subst hj; exact hc.2
      · exact ha h (by omega) g2
    · rw [if_neg (by simpa using hc)]
      refine t.one_right h1 h2 (fun h g1 g2 => ?_) ha r
      have hf : lk key d[i]! d[j]! = false := by
        cases hv : lk key d[i]! d[j]! with
        | false => rfl
        | true => exact absurd ⟨by omega, hv⟩ hc
      by_cases hj : h = j
      · subst hj; exact hf
      · have := t.left h j g1 (by omega) (by omega)
        rw [lk_false] at hf ⊢
        unfold Rk at this; omega

/-- A stretch holds just its own places' numbers, in order. -/
def Ok (key : Nat → Nat) (d : Array Nat) (a b : Nat) : Prop := Srt key d a b ∧ ∀ x, Inn d a b x ↔ a ≤ x ∧ x < b
theorem Ok.two {key d a m b} (h : Ok key d a m) (h' : Ok key d m b) (h1 : a ≤ m) (h2 : m ≤ b) (hb : b ≤ d.size) : Two key d a m b :=
  ⟨h1, h2, hb, h.1, h'.1, fun i j g1 g2 g3 g4 => by
    have e1 := (h.2 _).1 (Inn.at g1 g2)
    have e2 := (h'.2 _).1 (Inn.at g3 g4)
    omega⟩
theorem Ok.mrg {key d d' a m b} (h : Ok key d a m) (h' : Ok key d m b) (h1 : a ≤ m) (h2 : m ≤ b) (r : Mrg key d d' a b) : Ok key d' a b :=
  ⟨r.srt, fun x => by rw [r.inn, Inn.split h1 h2, h.2, h'.2]; omega⟩
theorem Ok.out {key d d' a b c e} (h : Ok key d a b) (ho : Out d d' c e) (hd : b ≤ c ∨ e ≤ a) : Ok key d' a b :=
  ⟨h.1.out ho hd, fun x => by rw [Inn.out ho hd]; exact h.2 x⟩
theorem Ok.self {key d a} (h : d[a]! = a) : Ok key d a (a + 1) :=
  ⟨Srt.one (by omega), fun x => by
    constructor
    · rintro ⟨i, h1, h2, h3⟩
      obtain rfl : i = a := by omega
      omega
    · intro hx
      exact ⟨a, by omega, by omega, by omega⟩⟩
theorem Ok.none {key d a} : Ok key d a a := ⟨Srt.one (by omega), fun x => ⟨fun ⟨i, h1, h2, h3⟩ => by omega, fun hx => by omega⟩⟩

theorem ins_outer {key : Nat → Nat} {a b : Nat} : ∀ (k i : Nat) (d : Array Nat), b - i = k → a ≤ i → i ≤ b → b ≤ d.size → Ok key d a i → (∀ q, i ≤ q → q < b → d[q]! = q) →
    (insOuter (lk key) a b i d).size = d.size ∧ Out d (insOuter (lk key) a b i d) a b ∧ Ok key (insOuter (lk key) a b i d) a b := by
  intro k
  induction k with
  | zero =>
    intro i d hk h1 h2 h3 ho hi
    obtain rfl : i = b := by omega
    rw [insOuter, if_neg (by omega)]
    exact ⟨rfl, fun _ _ => rfl, ho⟩
  | succ k ih =>
    intro i d hk h1 h2 h3 ho hi
    rw [insOuter, if_pos (by omega)]
    have hs : Ok key d i (i + 1) := Ok.self (hi i (Nat.le_refl _) (by omega))
    have m := ins_inner_at (ho.two hs h1 (by omega) (by omega)) i d h1 (Nat.le_refl _) (Rot.refl_left (by omega)) (fun h g1 g2 => by omega)
    obtain ⟨e1, e2, e3⟩ := ih (i + 1) _ (by omega) (by omega) (by omega) (by rw [m.size]; exact h3) (ho.mrg hs h1 (by omega) m) (fun q g1 g2 => by rw [m.out q (by omega)]; exact hi q (by omega) g2)
    exact ⟨by rw [e1, m.size], fun q hq => by rw [e2 q hq, m.out q (by omega)], e3⟩
theorem ins_block {key : Nat → Nat} {a b : Nat} {d : Array Nat} (hab : a ≤ b) (hb : b ≤ d.size) (hi : ∀ q, a ≤ q → q < b → d[q]! = q) :
    (insertionSort (lk key) d a b).size = d.size ∧ Out d (insertionSort (lk key) d a b) a b ∧ Ok key (insertionSort (lk key) d a b) a b := by
  unfold insertionSort
  by_cases h : a < b
  · exact ins_outer _ (a + 1) d rfl (by omega) (by omega) hb (Ok.self (hi a (Nat.le_refl _) h)) (fun q g1 g2 => hi q (by omega) g2)
  · obtain rfl : a = b := by omega
    rw [insOuter, if_neg (by omega)]
    exact ⟨rfl, fun _ _ => rfl, Ok.none⟩

/-! ### Blocks -/
inductive Cov (key : Nat → Nat) (d : Array Nat) (bs n : Nat) : Nat → Prop
  | done {a} : n ≤ a → Cov key d bs n a
  | step {a} : a < n → Ok key d a (min (a + bs) n) → Cov key d bs n (a + bs) → Cov key d bs n a
inductive Pre (key : Nat → Nat) (d : Array Nat) (bs : Nat) : Nat → Prop
  | zero : Pre key d bs 0
  | step {a} : Pre key d bs a → Ok key d a (a + bs) → Pre key d bs (a + bs)

theorem Pre.cov {key d bs n a} (h : Pre key d bs a) (hn : a ≤ n) (hc : Cov key d bs n a) : 0 < bs → Cov key d bs n 0 := by
  intro hb
  induction h with
  | zero => exact hc
  | step h ho ih => exact ih (by omega) (.step (by omega) (by rw [Nat.min_eq_left hn]; exact ho) hc)
theorem Pre.out {key d d' bs a c e} (h : Pre key d bs a) (ho : Out d d' c e) (hd : a ≤ c) : Pre key d' bs a := by
  induction h with
  | zero => exact .zero
  | step h hk ih => exact .step (ih (by omega)) (hk.out ho (.inl hd))
theorem Cov.out {key d d' bs n a c e} (h : Cov key d bs n a) (ho : Out d d' c e) (hd : e ≤ a) : Cov key d' bs n a := by
  induction h with
  | done h => exact .done h
  | step h hk hc ih => exact .step h (hk.out ho (.inr hd)) (ih (by omega))
theorem Cov.head {key d bs n a} (h : Cov key d bs n a) (ha : a < n) : Ok key d a (min (a + bs) n) ∧ Cov key d bs n (a + bs) := by
  cases h with
  | done h => omega
  | step h hk hc => exact ⟨hk, hc⟩
theorem Cov.all {key d bs n} (h : Cov key d bs n 0) (hb : n ≤ bs) : Ok key d 0 n := by
  cases h with
  | done h => obtain rfl : n = 0 := by omega
              exact Ok.none
  | step h hk hc => rwa [Nat.min_eq_right (by omega)] at hk
/-- The last blocks of a round. -/
theorem Cov.last_two {key d d' bs n a} (h : Cov key d bs n a) (h1 : a + bs < n) (h2 : n < a + 2 * bs) (r : Mrg key d d' a n) : Cov key d' (2 * bs) n a := by
  obtain ⟨k1, c1⟩ := h.head (by omega)
  obtain ⟨k2, _⟩ := c1.head h1
  rw [Nat.min_eq_left (by omega)] at k1
  rw [Nat.min_eq_right (by omega)] at k2
  exact .step (by omega) (by rw [Nat.min_eq_right (by omega)]; exact k1.mrg k2 (by omega) (by omega) r) (.done (by omega))
theorem Cov.last_one {key d bs n a} (h : Cov key d bs n a) (h1 : n ≤ a + bs) : Cov key d (2 * bs) n a := by
  rcases Nat.lt_or_ge a n with g | g
  · obtain ⟨k1, c1⟩ := h.head g
    rw [Nat.min_eq_right h1] at k1
    exact .step g (by rw [Nat.min_eq_right (by omega)]; exact k1) (.done (by omega))
  · exact .done g
theorem Cov.pair {key d bs n a} (h : Cov key d bs n a) (h1 : a + 2 * bs ≤ n) (hb : 0 < bs) (hn : n ≤ d.size) : Two key d a (a + bs) (a + 2 * bs) ∧ ∀ d', Mrg key d d' a (a + 2 * bs) → Ok key d' a (a + 2 * bs) ∧ Cov key d' bs n (a + 2 * bs) := by
  obtain ⟨k1, c1⟩ := h.head (by omega)
  obtain ⟨k2, c2⟩ := c1.head (by omega)
  rw [Nat.min_eq_left (by omega)] at k1
  rw [show a + bs + bs = a + 2 * bs by omega] at k2 c2
  rw [Nat.min_eq_left (by omega)] at k2
  exact ⟨k1.two k2 (by omega) (by omega) (by omega), fun d' r => ⟨k1.mrg k2 (by omega) (by omega) r, c2.out r.out (Nat.le_refl _)⟩⟩

/-- A number that is in order has as many below it as its place tells. -/
theorem rank_at {key : Nat → Nat} {d : Array Nat} {n : Nat} (h : Ok key d 0 n) (hn : n = d.size) (k : Nat) (hk : k < n) : (List.range n).countP (fun j => decide (Rk key j d[k]!)) = k := by
  have hnd : d.toList.Nodup := by
    rw [List.nodup_iff_pairwise_ne, List.pairwise_iff_getElem]
    intro i j hi hj hij he
    have := h.1 i j (Nat.zero_le _) hij (by rw [hn]; simpa using hj)
    rw [getElem!_pos d i (by simpa using hi), getElem!_pos d j (by simpa using hj)] at this
    rw [Array.getElem_toList, Array.getElem_toList] at he
    rw [he] at this
    exact Rk.irrefl this
  have hp : d.toList.Perm (List.range n) := by
    rw [List.perm_ext_iff_of_nodup hnd List.nodup_range]
    intro x
    rw [List.mem_range, ← (show (0 ≤ x ∧ x < n) ↔ x < n by omega), ← h.2 x, List.mem_iff_getElem]
    constructor
    · rintro ⟨i, hi, rfl⟩
      exact ⟨i, Nat.zero_le _, by rw [hn]; simpa using hi, by rw [getElem!_pos d i (by simpa using hi), Array.getElem_toList]⟩
    · rintro ⟨i, _, hi, rfl⟩
      exact ⟨i, by simpa [← hn] using hi, by rw [getElem!_pos d i (by omega), Array.getElem_toList]⟩
  rw [← hp.countP_eq]
  have hk' : k < d.toList.length := by simpa [← hn] using hk
  rw [← List.take_append_drop k d.toList, List.countP_append]
  have e1 : (d.toList.take k).countP (fun j => decide (Rk key j d[k]!)) = k := by
    rw [List.countP_eq_length.2, List.length_take]
    · omega
    · intro x hx
      obtain ⟨i, hi, rfl⟩ := List.mem_iff_getElem.1 hx
      rw [List.length_take] at hi
      rw [List.getElem_take]
      have := h.1 i k (Nat.zero_le _) (by omega) hk
      rw [getElem!_pos d i (by omega)] at this
      simpa using this
  have e2 : (d.toList.drop k).countP (fun j => decide (Rk key j d[k]!)) = 0 := by
    rw [List.countP_eq_zero]
    intro x hx
    obtain ⟨i, hi, rfl⟩ := List.mem_iff_getElem.1 hx
    rw [List.length_drop] at hi
    rw [List.getElem_drop]
    have hh : k + i < d.size := by simp at hi; omega
    by_cases h0 : i = 0
    · subst h0
      have : d.toList[k + 0]'(by simp; omega) = d[k]! := by rw [getElem!_pos d k (by omega)]; simp
      rw [this]
      simp [Rk.irrefl]
    · have := h.1 k (k + i) (Nat.zero_le _) (by omega) (by omega)
      rw [getElem!_pos d (k + i) hh] at this
      simp only [Array.getElem_toList, decide_eq_true_eq]
      intro hc
      exact Rk.irrefl (hc.trans this)
  rw [e1, e2, Nat.add_zero]
end Go.Proofs.YtoiondgcjbdonaaDoor
