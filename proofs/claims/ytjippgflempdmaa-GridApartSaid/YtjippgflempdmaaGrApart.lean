/- Layer 11: rectangles lie within, are great enough, and apart: in plain Lean. -/
import Derived.Test.YtjippgflempdmaaMgGrF
import Derived.Test.YtjippgflempdmaaGrLawL
import Derived.Test.YtjippgflempdmaaMgFair
namespace Go.Proofs.Ytjippgflempdmaa
set_option linter.unusedVariables false
set_option linter.unusedSimpArgs false
set_option maxRecDepth 100000
open Go.RowKit

theorem pos_sum9 (A : List Int) (gap : Int) : ∀ k, k ≤ A.length → posL A gap k = sumI (A.take k) + gap * k := by
  intro k
  induction k with
  | zero => intro _; simp [posL, sumI]
  | succ k ih =>
    intro h
    have h1 := ih (by omega)
    rw [List.take_succ_eq_append_getElem (show k < A.length by omega), sumI_append]
    simp only [posL, h1, sumI]
    have e : A.getD k 0 = A[k] := by simp [List.getD, show k < A.length by omega]
    rw [e]
    have e2 : gap * ((k + 1 : Nat) : Int) = gap * k + gap := by rw [Int.natCast_succ, Int.mul_add]; omega
    omega
theorem row_end9 {L : List T3} {gap room : Int} {A : List Int} (hF : Fair L (roomN L.length gap room) A) (hg : 0 ≤ gap ∧ gap ≤ 16384) (hs : 0 ≤ sumP L) (hn : 0 < L.length) : posL A gap L.length - gap ≤ max room (sumP L + gap * max 0 ((L.length : Int) - 1)) := by
  have h1 := pos_sum9 A gap L.length (by rw [hF.len]; omega)
  rw [← hF.len, List.take_length] at h1
  rw [← hF.len]
  rw [← hF.len] at hn
  have hsum : sumI A ≤ max (roomN L.length gap room) (sumP L) := by
    rcases hF.sum with h | ⟨_, _, h⟩ | ⟨h, h'⟩ <;> omega
  unfold roomN at hsum
  rw [← hF.len] at hsum
  rw [show max 0 ((A.length : Int) - 1) = (A.length : Int) - 1 by omega] at hsum ⊢
  have e : gap * ((A.length : Int) - 1) = gap * A.length - gap := by rw [Int.mul_sub]; omega
  rw [e] at hsum ⊢
  omega
theorem sum_trk (l : List Int) : sumP (trkL l) = psum l l.length := by
  have h : ∀ k, k ≤ l.length → sumP (trkL (l.take k)) = psum l k := by
    intro k
    induction k with
    | zero => intro _; rfl
    | succ k ih =>
      intro hk
      rw [trk_take (show k < l.length by omega), sumP_append, ih (by omega)]
      show psum l k + (l[k] + 0) = psum l k + l.getD k 0
      rw [show l.getD k 0 = l[k] by simp [List.getD, show k < l.length by omega]]
      omega
  have := h l.length (Nat.le_refl _)
  rwa [List.take_length] at this
/-- What is known of rows of tracks that have room. -/
structure TrkF (l : List Int) (gap room : Int) (A xs : List Int) : Prop where
  low : ∀ k, k < l.length → l.getD k 0 ≤ A.getD k 0
  at_ : ∀ k, k < l.length → xs.getD k 0 = posL A gap k
  nn : ∀ k, 0 ≤ A.getD k 0
  fin : 0 < l.length → posL A gap l.length - gap ≤ room
theorem trk_facts {l : List Int} {gap room : Int} (hok : okN l) (hl : l.length ≤ 1024) (hg : 0 ≤ gap ∧ gap ≤ 16384) (hr : 0 ≤ room ∧ room ≤ 32768) (hw : wholeP l gap l.length ≤ room) : TrkF l gap room (rowR (trkL l) gap room) (rowB (trkL l) gap room) := by
  have hgg : okG gap = true := by simpa [okG, inB] using hg
  have hrr : okR room = true := by simpa [okR, inB] using hr
  obtain ⟨⟨f1, f2⟩, f3, f4⟩ := row_facts (room := room) hok hl hgg hrr
  have he := trk_row hok hl hgg hrr
  have hall := (chk_ok (trk_ok hok hl)).2
  have hrn : 0 ≤ roomN (trkL l).length gap room ∧ roomN (trkL l).length gap room ≤ 32768 := by
    unfold roomN
    have := gap_bd (n := max 0 (((trkL l).length : Int) - 1)) hg (by rw [trkL_len]; omega)
    omega
  have hF := share_fair (L := trkL l) (room := roomN (trkL l).length gap room) hall hrn
  have e : rowR (trkL l) gap room = shareP (trkL l) (roomN (trkL l).length gap room) := by unfold rowR; rw [if_pos he]
  refine ⟨fun k hk => ?_, fun k hk => ?_, fun k => ?_, fun hn => ?_⟩
  · have := hF.low k (by rw [trkL_len]; exact hk)
    rw [← e] at this
    have e2 : (tk (trkL l) k).p = l.getD k 0 := by simp [tk, trkL, trk, List.getD, hk]
    rwa [e2] at this
  · unfold rowB startsL
    simp [List.getD, f1, hk]
  · by_cases hk : k < (rowR (trkL l) gap room).length
    · exact (f3 _ (getD_in9 hk)).1
    · simp [List.getD, show (rowR (trkL l) gap room).length ≤ k by omega]
  · have h := row_end9 hF hg (by rw [sum_trk]; exact (psum_bd hok _).1) (by rw [trkL_len]; exact hn)
    rw [← e, trkL_len, sum_trk] at h
    unfold wholeP at hw
    have e3 : gap * max 0 ((l.length : Int) - 1) = max ((l.length : Int) - 1) 0 * gap := by rw [Int.mul_comm, show max 0 ((l.length : Int) - 1) = max ((l.length : Int) - 1) 0 by omega]
    rw [e3] at h
    omega
section
variable {l A xs : List Int} {gap room : Int}
theorem TrkF.step (h : TrkF l gap room A xs) (k : Nat) : posL A gap (k + 1) = posL A gap k + A.getD k 0 + gap := by
  show posL A gap k + (A.getD k 0 + gap) = _
  omega
theorem TrkF.mono (h : TrkF l gap room A xs) (hg : 0 ≤ gap) {a b : Nat} (hab : a ≤ b) : posL A gap a ≤ posL A gap b := by
  induction b with
  | zero => rw [show a = 0 by omega]; exact Int.le_refl _
  | succ b ih =>
    by_cases e : a = b + 1
    · rw [e]; exact Int.le_refl _
    · have h1 := ih (by omega)
      have h2 := h.step b
      have h3 := h.nn b
      omega
theorem TrkF.after (h : TrkF l gap room A xs) (hg : 0 ≤ gap) {a b : Nat} (hab : a < b) : posL A gap a + A.getD a 0 + gap ≤ posL A gap b := by
  have h1 := h.step a
  have h2 := h.mono hg (show a + 1 ≤ b from hab)
  omega
theorem TrkF.most (h : TrkF l gap room A xs) (hg : 0 ≤ gap) {k : Nat} (hk : k < l.length) : posL A gap k + A.getD k 0 ≤ room := by
  have h1 := h.after hg hk
  have h2 := h.fin (by omega)
  omega
theorem TrkF.ge (h : TrkF l gap room A xs) {a b : Nat} (hab : a ≤ b) (hb : b ≤ l.length) : psum l b - psum l a + ((b : Int) - a) * gap ≤ posL A gap b - posL A gap a := by
  induction b with
  | zero => rw [show a = 0 by omega]; simp
  | succ b ih =>
    by_cases e : a = b + 1
    · rw [e]; simp
    · have h1 := ih (by omega) (by omega)
      have h2 := h.step b
      have h3 := h.low b (by omega)
      have h4 : psum l (b + 1) = psum l b + l.getD b 0 := rfl
      have h5 : (((b + 1 : Nat) : Int) - a) * gap = ((b : Int) - a) * gap + gap := by
        rw [show ((b + 1 : Nat) : Int) - a = ((b : Int) - a) + 1 by omega, Int.add_mul, Int.one_mul]
      omega
theorem TrkF.zero (h : TrkF l gap room A xs) (hg : 0 ≤ gap) (k : Nat) : 0 ≤ posL A gap k := by
  have h1 := h.mono hg (Nat.zero_le k)
  have h2 : posL A gap 0 = 0 := rfl
  omega
end
/-- Where two things lie. -/
theorem cell_order {n : Int} (hn : 1 ≤ n) (S : List Int) {k i : Nat} (hk : k < i) : rowP n S k < rowP n S i ∨ (rowP n S k = rowP n S i ∧ colP n S k + wideP n S k ≤ colP n S i) := by
  induction i with
  | zero => omega
  | succ i ih =>
    have hw := wide_bd hn S i
    have hnx : nxtP n S (i + 1) = (colP n S i + wideP n S i, rowP n S i) := nxt_succ n S i
    have hr : rowP n S (i + 1) = if brk n S (i + 1) then rowP n S i + 1 else rowP n S i := by
      show (if brk n S (i + 1) then (nxtP n S (i + 1)).2 + 1 else (nxtP n S (i + 1)).2) = _
      rw [hnx]
    have hc : colP n S (i + 1) = if brk n S (i + 1) then 0 else colP n S i + wideP n S i := by
      show (if brk n S (i + 1) then 0 else (nxtP n S (i + 1)).1) = _
      rw [hnx]
    by_cases hb : brk n S (i + 1)
    · rw [if_pos hb] at hr hc
      left
      by_cases e : k = i
      · subst e; omega
      · rcases ih (by omega) with h | h <;> omega
    · rw [if_neg hb] at hr hc
      by_cases e : k = i
      · subst e; right; omega
      · rcases ih (by omega) with h | ⟨h1, h2⟩
        · left; omega
        · right; omega
theorem cell_next {n : Int} (hn : 1 ≤ n) (S : List Int) (i : Nat) : (rowP n S (i + 1) = rowP n S i ∧ colP n S (i + 1) = colP n S i + wideP n S i) ∨ (rowP n S (i + 1) = rowP n S i + 1 ∧ colP n S (i + 1) = 0 ∧ n < colP n S i + wideP n S i + wideP n S (i + 1)) := by
  have hnx : nxtP n S (i + 1) = (colP n S i + wideP n S i, rowP n S i) := nxt_succ n S i
  have hr : rowP n S (i + 1) = if brk n S (i + 1) then rowP n S i + 1 else rowP n S i := by
    show (if brk n S (i + 1) then (nxtP n S (i + 1)).2 + 1 else (nxtP n S (i + 1)).2) = _
    rw [hnx]
  have hc : colP n S (i + 1) = if brk n S (i + 1) then 0 else colP n S i + wideP n S i := by
    show (if brk n S (i + 1) then 0 else (nxtP n S (i + 1)).1) = _
    rw [hnx]
  by_cases hb : brk n S (i + 1)
  · rw [if_pos hb] at hr hc
    right
    refine ⟨hr, hc, ?_⟩
    unfold brk at hb
    rw [hnx] at hb
    exact hb
  · rw [if_neg hb] at hr hc
    left
    exact ⟨hr, hc⟩
theorem over_no {p q : Geo.Rc} (h : p.x + p.w ≤ q.x ∨ p.y + p.h ≤ q.y) : Geo.over q p = false := by
  unfold Geo.over
  have : Geo.meet q p = Geo.zero := by
    unfold Geo.meet
    split
    · rfl
    · unfold Geo.fromR
      rw [if_pos]
      omega
  rw [this]
  simp
/-- A thing's rectangle. -/
structure RctF (s : T2) (r q : Geo.Rc) : Prop where
  w : s.p ≤ q.w
  h : s.q ≤ q.h
  x : r.x ≤ q.x
  y : r.y ≤ q.y
  right : q.x + q.w ≤ r.x + r.w
  bot : q.y + q.h ≤ r.y + r.h
theorem RctF.may {s : T2} {r q : Geo.Rc} (h : RctF s r q) (hs : 0 ≤ s.p ∧ 0 ≤ s.q) (hr : Geo.may r = true) : Geo.may q = true := by
  obtain ⟨x, y, a, b⟩ := q
  obtain ⟨x', y', a', b'⟩ := r
  have h1 := (Geo.may_iff _ _ _ _).1 hr
  rw [Geo.may_iff]
  have := h.w
  have := h.h
  have := h.x
  have := h.y
  have := h.right
  have := h.bot
  simp only at *
  omega
theorem rct_facts {m : Nat} {S : List Int} {L : List T2} {gap : Int} {r : Geo.Rc} (hok : PlanOk m S L gap) (hr : Geo.may r = true) (hW : wholeP (widL m S (wsL L) gap S.length) gap (useP m S S.length) ≤ r.w) (hH : wholeP (hgtL m S (hsL L) S.length) gap (rwN m S S.length) ≤ r.h) :
    (∀ i (hi : i < S.length), RctF (L[i]'(by rw [hok.len]; exact hi)) r (rctP m S r (xsL m S L gap r) (wdL m S L gap r) (ysL m S L gap r) (htL m S L gap r) i)) ∧
    (∀ i k, k < i → i < S.length → (rctP m S r (xsL m S L gap r) (wdL m S L gap r) (ysL m S L gap r) (htL m S L gap r) k).x + (rctP m S r (xsL m S L gap r) (wdL m S L gap r) (ysL m S L gap r) (htL m S L gap r) k).w ≤ (rctP m S r (xsL m S L gap r) (wdL m S L gap r) (ysL m S L gap r) (htL m S L gap r) i).x ∨ (rctP m S r (xsL m S L gap r) (wdL m S L gap r) (ysL m S L gap r) (htL m S L gap r) k).y + (rctP m S r (xsL m S L gap r) (wdL m S L gap r) (ysL m S L gap r) (htL m S L gap r) k).h ≤ (rctP m S r (xsL m S L gap r) (wdL m S L gap r) (ysL m S L gap r) (htL m S L gap r) i).y) := by
  have hmay := (Geo.may_iff r.x r.y r.w r.h).1 hr
  have hm1 : (1 : Int) ≤ m := by have := hok.wid.m1; omega
  have hm2 := hok.wid.m2
  have hg := hok.wid.g
  have hub := use_bd hm1 S S.length
  have hrN := rw_most hm1 S S.length
  have hn1 := hok.wid.n1
  have hul := usedL_len hok.wid.m1 S (wsL L) gap S.length
  have hhl := hgtL_len m S (hsL L) S.length
  have F1 := trk_facts (l := usedL m S (wsL L) gap S.length) (gap := gap) (room := r.w) (usedL_ok hok.wid) (by rw [hul]; omega) hg hmay.2.2.1 (by rw [hul, used_whole hok.wid]; exact hW)
  have F2 := trk_facts (l := hgtL m S (hsL L) S.length) (gap := gap) (room := r.h) (hgtL_ok hok.hd) (by rw [hhl]; omega) hg hmay.2.2.2.1 (by rw [hhl]; exact hH)
  have hidx : ∀ i, i < S.length → ∃ x l y : Nat, colP m S i = x ∧ colP m S i + wideP m S i - 1 = l ∧ rowP m S i = y ∧ x ≤ l ∧ l < (usedL m S (wsL L) gap S.length).length ∧ y < (hgtL m S (hsL L) S.length).length ∧
      rctP m S r (xsL m S L gap r) (wdL m S L gap r) (ysL m S L gap r) (htL m S L gap r) i = ⟨r.x + posL (wdL m S L gap r) gap x, r.y + posL (htL m S L gap r) gap y, posL (wdL m S L gap r) gap l + (wdL m S L gap r).getD l 0 - posL (wdL m S L gap r) gap x, (htL m S L gap r).getD y 0⟩ := fun i hi => by
    have c1 := col_bd hm1 S i
    have c2 := wide_bd hm1 S i
    have c3 := use_ge (n := (m : Int)) (S := S) hi
    have c4 := rw_lt hm1 S hi
    obtain ⟨x, hx⟩ : ∃ x : Nat, colP m S i = x := ⟨(colP m S i).toNat, by omega⟩
    obtain ⟨l, hl⟩ : ∃ l : Nat, colP m S i + wideP m S i - 1 = l := ⟨(colP m S i + wideP m S i - 1).toNat, by omega⟩
    refine ⟨x, l, rowP m S i, hx, hl, rfl, by omega, by rw [hul]; omega, by rw [hhl]; exact c4, ?_⟩
    unfold rctP
    rw [hl, hx, Int.toNat_natCast, Int.toNat_natCast]
    have a1 := F1.at_ x (by rw [hul]; omega)
    have a2 := F1.at_ l (by rw [hul]; omega)
    have a3 := F2.at_ (rowP m S i) (by rw [hhl]; exact c4)
    unfold xsL wdL ysL htL
    rw [a1, a2, a3]
  refine ⟨fun i hi => ?_, fun i k hki hi => ?_⟩
  · obtain ⟨x, l, y, hx, hl, hy, hxl, hlU, hyR, hq⟩ := hidx i hi
    rw [hq]
    have hlL : i < L.length := by rw [hok.len]; exact hi
    have t1 := tog_widL hok.wid hi
    rw [ws_at L i hlL] at t1
    have e1 : (colP m S i).toNat = x := by omega
    have e2 : (colP m S i + wideP m S i).toNat = l + 1 := by omega
    rw [e1, e2] at t1
    unfold togP at t1
    have g1 := F1.ge (show x ≤ l + 1 by omega) (show l + 1 ≤ _ from hlU)
    have p1 : psum (usedL m S (wsL L) gap S.length) (l + 1) = psum (widL m S (wsL L) gap S.length) (l + 1) := psum_take _ _ _ (by rw [hul] at hlU; exact hlU)
    have p2 : psum (usedL m S (wsL L) gap S.length) x = psum (widL m S (wsL L) gap S.length) x := psum_take _ _ _ (by rw [hul] at hlU; omega)
    rw [p1, p2] at g1
    have s1 := F1.step l
    have g2 : ((l + 1 : Nat) : Int) - x - 1 = ((l + 1 : Nat) : Int) - x + (-1) := by omega
    rw [g2, Int.add_mul] at t1
    have t2 := hgt_ge (n := (m : Int)) (S := S) (D := hsL L) (N := S.length) hi (Nat.le_refl _)
    rw [hs_at L i hlL, hy] at t2
    have t3 := F2.low y hyR
    have e3 : (hgtL m S (hsL L) S.length).getD y 0 = hgtF m S (hsL L) S.length y := by
      have hy9 : y < rwN m S S.length := by rw [← hhl]; exact hyR
      unfold hgtL
      simp [hgtX, List.getD, hy9]
    rw [e3] at t3
    have z1 := F1.zero hg.1 x
    have z2 := F2.zero hg.1 y
    have o1 := F1.most hg.1 hlU
    have o2 := F2.most hg.1 hyR
    have hwd : wdL m S L gap r = rowR (trkL (usedL m S (wsL L) gap S.length)) gap r.w := rfl
    have hht : htL m S L gap r = rowR (trkL (hgtL m S (hsL L) S.length)) gap r.h := rfl
    rw [hwd, hht]
    exact ⟨by simp only; omega, by simp only; omega, by simp only; omega, by simp only; omega, by simp only; omega, by simp only; omega⟩
  · obtain ⟨x, l, y, hx, hl, hy, hxl, hlU, hyR, hq⟩ := hidx i hi
    obtain ⟨x', l', y', hx', hl', hy', hxl', hlU', hyR', hq'⟩ := hidx k (by omega)
    rw [hq, hq']
    have hwd : wdL m S L gap r = rowR (trkL (usedL m S (wsL L) gap S.length)) gap r.w := rfl
    have hht : htL m S L gap r = rowR (trkL (hgtL m S (hsL L) S.length)) gap r.h := rfl
    rw [hwd, hht]
    rcases cell_order hm1 S hki with h | ⟨h1, h2⟩
    · right
      have := F2.after hg.1 (show y' < y by omega)
      simp only
      omega
    · left
      have := F1.after hg.1 (show l' < x by omega)
      simp only
      omega
/-- Where there is as much room as is needed. -/
theorem need_apart {S : List Int} {L : List T2} {col gap : Int} {r : Geo.Rc} (hE : ndE S L col gap = 0) (hW : (ndR S L col gap).p ≤ r.w) (hH : (ndR S L col gap).q ≤ r.h) (hr : Geo.may r = true) :
    S.length = L.length ∧ rcsE S L col gap r = 0 ∧ (rcsR S L col gap r).length = S.length ∧ (∀ i, i < S.length → RctF (L.getD i ⟨0, 0⟩) r ((rcsR S L col gap r).getD i Geo.zero)) ∧ (∀ i k, k < i → i < S.length → Geo.over ((rcsR S L col gap r).getD i Geo.zero) ((rcsR S L col gap r).getD k Geo.zero) = false) ∧ (∀ i, i < S.length → (0 ≤ (L.getD i ⟨0, 0⟩).p ∧ (L.getD i ⟨0, 0⟩).p ≤ 16384) ∧ (0 ≤ (L.getD i ⟨0, 0⟩).q ∧ (L.getD i ⟨0, 0⟩).q ≤ 16384)) := by
  have hd : ndR S L col gap = ⟨ndW S L col gap, ndH S L col gap⟩ := by unfold ndR; rw [if_pos hE]
  have hE2 := hE
  unfold ndE at hE2
  split at hE2
  · rename_i h0
    split at hE2
    · rename_i hlen
      obtain ⟨hok, hcol, hl⟩ := wrong_ok h0 hlen
      have hz := (szE_ok (ask_ok h0 (szE L) (by simp))).2
      rw [hd] at hW hH
      simp only at hW hH
      unfold ndW at hW
      unfold ndH at hH
      obtain ⟨m, hm⟩ : ∃ m : Nat, (max col 1).toNat = m := ⟨_, rfl⟩
      rw [hm] at hok hcol hW
      rw [hcol] at hW hH
      obtain ⟨F, G⟩ := rct_facts hok hr hW hH
      have hsz : ∀ i, i < S.length → (0 ≤ (L.getD i ⟨0, 0⟩).p ∧ (L.getD i ⟨0, 0⟩).p ≤ 16384) ∧ (0 ≤ (L.getD i ⟨0, 0⟩).q ∧ (L.getD i ⟨0, 0⟩).q ≤ 16384) := fun i hi => by
        have hiL : i < L.length := by omega
        rw [show L.getD i ⟨0, 0⟩ = L[i] by simp [List.getD, hiL]]
        exact hz _ (List.getElem_mem hiL)
      have hF : ∀ i, i < S.length → RctF (L.getD i ⟨0, 0⟩) r (rctP m S r (xsL m S L gap r) (wdL m S L gap r) (ysL m S L gap r) (htL m S L gap r) i) := fun i hi => by
        have hiL : i < L.length := by omega
        rw [show L.getD i ⟨0, 0⟩ = L[i] by simp [List.getD, hiL]]
        exact F i hi
      have hask : askR S L col gap r = 0 := by
        unfold askR
        rw [h0, show Geo.checkE r = 0 by unfold Geo.checkE; rw [hr]; rfl]
        rfl
      have hall : (allL m S L gap r S.length).all Geo.may = true := by
        refine List.all_eq_true.2 fun q hq => ?_
        unfold allL rctL at hq
        obtain ⟨i, hi, rfl⟩ := List.mem_map.1 hq
        have hi := List.mem_range.1 hi
        exact (hF i hi).may ⟨(hsz i hi).1.1, (hsz i hi).2.1⟩ hr
      have hre : rcsE S L col gap r = 0 := by
        unfold rcsE
        rw [if_pos hask, if_pos hlen, hm, if_pos hall]
      have hrr : rcsR S L col gap r = allL m S L gap r S.length := by
        unfold rcsR
        rw [if_pos hre, hm]
      have hat : ∀ i, i < S.length → (rcsR S L col gap r).getD i Geo.zero = rctP m S r (xsL m S L gap r) (wdL m S L gap r) (ysL m S L gap r) (htL m S L gap r) i := fun i hi => by
        rw [hrr]
        simp [allL, rctL, List.getD, hi]
      refine ⟨hlen, hre, by rw [hrr]; unfold allL; rw [rctL_len], fun i hi => by rw [hat i hi]; exact hF i hi, fun i k hki hi => ?_, hsz⟩
      rw [hat i hi, hat k (by omega)]
      exact over_no (G i k hki hi)
    · omega
  · rename_i h0
    exact absurd hE2 h0

end Go.Proofs.Ytjippgflempdmaa
