/- Layer 10: the reference's lacks, full; its memory while room is shared out. -/
import Derived.Test.YthannibclhidcaaShMem
namespace Go.Proofs.Ythannibclhidcaa
set_option linter.unusedVariables false
set_option linter.unusedSimpArgs false
open Go.RowKit
attribute [local go_sem] max_fold min_fold

def lackT (t : T3) : Int := if t.q = 0 then -1 else t.q - t.p
set_option maxHeartbeats 400000 in
theorem lacks_any (t : T3) (w : World) (hp : 0 ≤ t.p ∧ t.p ≤ 16384) (hq : 0 ≤ t.q ∧ t.q ≤ 16384) : Calls Try.prog 61 #[.agg #[.int .i64 t.p, .int .i64 t.q, .int .i64 t.r]] w fun e w' => e = .returned (.int .i64 (lackT t)) ∧ Below w.heap.size w w' := by
  obtain ⟨tp, tq, tr⟩ := t
  simp only at hp hq
  by_cases h : tq = 0
  · subst h
    go_enter Try.func61, Try.ntmps61
    go_wp2
    go_ret
    exact ⟨ret_int (by simp [lackT]), (by repeat (first | exact Below.refl _ _ | with_reducible refine Below.alloc ?_ (by first | (simp; done) | (simp; omega) | omega) _ | with_reducible refine Below.setCell ?_ (by first | (simp; done) | (simp; omega) | omega) _ | with_reducible refine Below.drew ?_ | with_reducible refine Below.trans ?_ (Below.mono (by assumption) (by first | (simp; done) | (simp; omega) | omega))))⟩
  · have hb : (tq == 0) = false := by simpa using h
    go_enter Try.func61, Try.ntmps61
    go_wp2
    go_ret
    exact ⟨ret_int (by simp [lackT, h]), (by repeat (first | exact Below.refl _ _ | with_reducible refine Below.alloc ?_ (by first | (simp; done) | (simp; omega) | omega) _ | with_reducible refine Below.setCell ?_ (by first | (simp; done) | (simp; omega) | omega) _ | with_reducible refine Below.drew ?_ | with_reducible refine Below.trans ?_ (Below.mono (by assumption) (by first | (simp; done) | (simp; omega) | omega))))⟩
theorem lacks_is {t : T3} {v : Int} (h : lackT t = v) (hp : 0 ≤ t.p ∧ t.p ≤ 16384) (hq : 0 ≤ t.q ∧ t.q ≤ 16384) (w : World) : Calls Try.prog 61 #[.agg #[.int .i64 t.p, .int .i64 t.q, .int .i64 t.r]] w fun e w' => e = .returned (.int .i64 v) ∧ Below w.heap.size w w' := h ▸ lacks_any t w hp hq
def fullT (t : T3) (left g : Int) : Bool := !(t.q == 0) && decide (g * (t.q - t.p) ≤ left * t.r)
set_option maxHeartbeats 1000000 in
theorem full_any (t : T3) (left g : Int) (w : World) (ht : mayT t = true) (hl : 0 ≤ left ∧ left ≤ 32768) (hg : 0 ≤ g ∧ g ≤ 16777216) :
    Calls Try.prog 60 #[.agg #[.int .i64 t.p, .int .i64 t.q, .int .i64 t.r], .int .i64 left, .int .i64 g] w fun e w' => e = .returned (.bool (fullT t left g)) ∧ Below w.heap.size w w' := by
  have htb := (mayT_iff t).1 ht
  by_cases h : t.q = 0
  · have hk : lackT t = -1 := by simp [lackT, h]
    have hf : fullT t left g = false := by simp [fullT, h]
    have c1 := fun w => lacks_is hk htb.1 (by omega) w
    have C1 := Go.Lib.hid c1
    rw [hf]
    clear c1 hf hk h
    go_enter Try.func60, Try.ntmps60
    go_wp2
    refine region_ext mixed (by kernel_rfl) ?_
    repeat (go_big_quiet_step (first | (go_at_call 61; exact in_ext (C1.out _))))
    refine wpQuiet_nil ?_
    intro w1 hb1
    go_wp2
    go_ret
    exact ⟨rfl, (by repeat (first | exact Below.refl _ _ | with_reducible refine Below.alloc ?_ (by first | (simp; done) | (simp; omega) | omega) _ | with_reducible refine Below.setCell ?_ (by first | (simp; done) | (simp; omega) | omega) _ | with_reducible refine Below.drew ?_ | with_reducible refine Below.trans ?_ (Below.mono (by assumption) (by first | (simp; done) | (simp; omega) | omega))))⟩
  · have hk : lackT t = t.q - t.p := by simp [lackT, h]
    have c1 := fun w => lacks_is hk htb.1 (by omega) w
    have C1 := Go.Lib.hid c1
    have hm1 := mul_bd hl htb.2.2
    have hm0 : (-274877906944 ≤ g * (t.q - t.p)) ∧ g * (t.q - t.p) ≤ 274877906944 := by
      have := mul_bd2 (a := g) (b := t.q - t.p) (c := 16777216) (d := 16384) (by omega) (by omega)
      omega
    have hge : 0 ≤ t.q - t.p := by omega
    have hge2 : t.p ≤ t.q := by omega
    clear c1 hk
    by_cases hle : g * (t.q - t.p) ≤ left * t.r
    · rw [show fullT t left g = true by simp [fullT, h, hle]]
      go_enter Try.func60, Try.ntmps60
      go_wp2
      refine region_ext mixed (by kernel_rfl) ?_
      repeat (go_big_quiet_step (first | (go_at_call 61; exact in_ext (C1.out _))))
      refine wpQuiet_nil ?_
      intro w1 hb1
      go_wp2
      go_ret
      exact ⟨ret_bool (by simp [hle]), (by repeat (first | exact Below.refl _ _ | with_reducible refine Below.alloc ?_ (by first | (simp; done) | (simp; omega) | omega) _ | with_reducible refine Below.setCell ?_ (by first | (simp; done) | (simp; omega) | omega) _ | with_reducible refine Below.drew ?_ | with_reducible refine Below.trans ?_ (Below.mono (by assumption) (by first | (simp; done) | (simp; omega) | omega))))⟩
    · rw [show fullT t left g = false by simp [fullT, h, hle]]
      have hlt : left * t.r < g * (t.q - t.p) := by omega
      go_enter Try.func60, Try.ntmps60
      go_wp2
      refine region_ext mixed (by kernel_rfl) ?_
      repeat (go_big_quiet_step (first | (go_at_call 61; exact in_ext (C1.out _))))
      refine wpQuiet_nil ?_
      intro w1 hb1
      go_wp2
      go_ret
      exact ⟨ret_bool (by simp [hle]), (by repeat (first | exact Below.refl _ _ | with_reducible refine Below.alloc ?_ (by first | (simp; done) | (simp; omega) | omega) _ | with_reducible refine Below.setCell ?_ (by first | (simp; done) | (simp; omega) | omega) _ | with_reducible refine Below.drew ?_ | with_reducible refine Below.trans ?_ (Below.mono (by assumption) (by first | (simp; done) | (simp; omega) | omega))))⟩
theorem full_is {t : T3} {left g : Int} {v : Bool} (h : fullT t left g = v) (ht : mayT t = true) (hl : 0 ≤ left ∧ left ≤ 32768) (hg : 0 ≤ g ∧ g ≤ 16777216) (w : World) :
    Calls Try.prog 60 #[.agg #[.int .i64 t.p, .int .i64 t.q, .int .i64 t.r], .int .i64 left, .int .i64 g] w fun e w' => e = .returned (.bool v) ∧ Below w.heap.size w w' := h ▸ full_any t left g w ht hl hg

theorem own_differ {w : World} {b b' : Nat} {e e' : TypeId} {s s' n n' : Nat} {v v' : Value} {xs xs' : List Value} (h : w.ownsRow b e s v n xs) (h' : w.ownsRow b' e' s' v' n' xs') (he : e ≠ e') : v.ownBlock = none ∨ v.ownBlock ≠ v'.ownBlock := by
  rcases h.2 with ⟨rfl, _⟩ | ⟨g, cap, cur, rfl, _, hh, _⟩
  · exact .inl rfl
  · refine .inr fun eq => ?_
    rcases h'.2 with ⟨rfl, _⟩ | ⟨g', cap', cur', rfl, _, hh', _⟩
    · cases eq
    · simp only [Value.ownBlock, Option.some.injEq] at eq
      subst eq
      rw [hh] at hh'
      simp at hh'
      exact he hh'.2

def pbs (pb : Nat → Bool) (n : Nat) : List Bool := (List.range n).map pb
structure RMem (B : Nat) (w : World) (A : Option Addr) (L : List T3) (n : Nat) (vo vp : Value) (O : List Int) (ps : List Bool) (wr : World) : Prop where
  below : Below w.heap.size w wr
  arg : At B wr A (t3s L)
  out : wr.ownsRow w.heap.size 3 1 vo n (ints O)
  part : wr.ownsRow w.heap.size 4 1 vp n (bools ps)
section
variable {B n : Nat} {w wr : World} {A : Option Addr} {L : List T3} {O : List Int} {ps : List Bool} {vo vp : Value}
theorem RMem.alloc (h : RMem B w A L n vo vp O ps wr) (hB : B ≤ w.heap.size) (o : Obj) : RMem B w A L n vo vp O ps (wr.alloc o) := by
  have hs := h.below.size
  exact ⟨h.below.alloc hs o, h.arg.ext ((Below.refl _ _).alloc (Nat.le_refl _) o), h.out.alloc o, h.part.alloc o⟩
theorem RMem.ext {w' : World} (h : RMem B w A L n vo vp O ps wr) (hb : Below wr.heap.size wr w') : RMem B w A L n vo vp O ps w' :=
  ⟨h.below.trans (hb.mono h.below.size), h.arg.ext hb, own_below' h.out hb, own_below' h.part hb⟩
theorem RMem.store {g c : Nat} (h : RMem B w A L n (.slice (some ⟨g, 0, none⟩) n c) vp O ps wr) (hB : B ≤ w.heap.size) (i : Nat) (u : Int) : RMem B w A L n (.slice (some ⟨g, 0, none⟩) n c) vp (O.set i u) ps (wr.setCell ⟨g, i, none⟩ (.int .i64 u)) := by
  have hg := own_ge h.out g rfl
  have h1 := own_store h.out i (.int .i64 u)
  rw [ints_set] at h1
  refine ⟨h.below.setCell (p := ⟨g, i, none⟩) hg _, h.arg.below ((Below.refl B wr).setCell (p := ⟨g, i, none⟩) (by simp only; omega) _), h1, own_off h.part ?_⟩
  rcases own_differ h.part h.out (by decide) with e | e
  · rw [e]; simp
  · exact e
theorem RMem.mark {g c : Nat} (h : RMem B w A L n vo (.slice (some ⟨g, 0, none⟩) n c) O ps wr) (hB : B ≤ w.heap.size) (i : Nat) (u : Bool) : RMem B w A L n vo (.slice (some ⟨g, 0, none⟩) n c) O (ps.set i u) (wr.setCell ⟨g, i, none⟩ (.bool u)) := by
  have hg := own_ge h.part g rfl
  have h1 := own_store h.part i (.bool u)
  rw [bools_set] at h1
  refine ⟨h.below.setCell (p := ⟨g, i, none⟩) hg _, h.arg.below ((Below.refl B wr).setCell (p := ⟨g, i, none⟩) (by simp only; omega) _), own_off h.out ?_, h1⟩
  rcases own_differ h.out h.part (by decide) with e | e
  · rw [e]; simp
  · exact e
theorem RMem.cells {i : Nat} (h : RMem B w A L n vo vp O ps wr) (hi : i < n) (hO : O.length = n) (hp : ps.length = n) : ∃ go co gp cp, vo = .slice (some ⟨go, 0, none⟩) n co ∧ vp = .slice (some ⟨gp, 0, none⟩) n cp ∧ go ≠ gp ∧ go < wr.heap.size ∧ gp < wr.heap.size ∧
    wr.cell? ⟨go, i, none⟩ = some (.int .i64 (O.getD i 0)) ∧ wr.frozen? ⟨go, i, none⟩ = false ∧ wr.cell? ⟨gp, i, none⟩ = some (.bool (ps.getD i false)) ∧ wr.frozen? ⟨gp, i, none⟩ = false := by
  have ho := h.out
  have hq := h.part
  obtain ⟨Ao, co, rfl⟩ := own_shape ho
  obtain ⟨Ap, cp, rfl⟩ := own_shape hq
  obtain ⟨go, rfl, _, l1⟩ := own_head ho (by omega)
  obtain ⟨gp, rfl, _, l2⟩ := own_head hq (by omega)
  refine ⟨go, co, gp, cp, rfl, rfl, ?_, l1, l2, ?_, ho.frozenAt i, ?_, hq.frozenAt i⟩
  · rcases own_differ ho hq (by decide) with e | e
    · cases e
    · intro e2
      exact e (by simp [Value.ownBlock, e2])
  · rw [ho.cellAt i (by omega), ints_at O i (by omega)]
    simp [List.getD, show i < O.length by omega]
  · rw [hq.cellAt i (by omega), bools_at ps i (by omega)]
    simp [List.getD, show i < ps.length by omega]
end
theorem own_len {w : World} {b : Nat} {e : TypeId} {sz m m' : Nat} {v : Value} {xs : List Value} (h : w.ownsRow b e sz v m xs) (hm : m = m') : w.ownsRow b e sz v m' xs := hm ▸ h
theorem RMem.cell_at {B n : Nat} {w wr : World} {A : Option Addr} {L : List T3} {O : List Int} {ps : List Bool} {go co gp cp i : Nat} (h : RMem B w A L n (.slice (some ⟨go, 0, none⟩) n co) (.slice (some ⟨gp, 0, none⟩) n cp) O ps wr) (hi : i < n) (hO : O.length = n) (hp : ps.length = n) :
    wr.cell? ⟨go, i, none⟩ = some (.int .i64 (O.getD i 0)) ∧ wr.frozen? ⟨go, i, none⟩ = false ∧ wr.cell? ⟨gp, i, none⟩ = some (.bool (ps.getD i false)) ∧ wr.frozen? ⟨gp, i, none⟩ = false ∧ go < wr.heap.size ∧ gp < wr.heap.size := by
  obtain ⟨go', co', gp', cp', e1, e2, _, l1, l2, h1, h2, h3, h4⟩ := h.cells hi hO hp
  injection e1 with e1 _ _
  injection e1 with e1
  injection e1 with e1 _
  injection e2 with e2 _ _
  injection e2 with e2
  injection e2 with e2 _
  subst e1
  subst e2
  exact ⟨h1, h2, h3, h4, l1, l2⟩
def selP (pb : Nat → Bool) (k : Nat) : List Nat := (List.range k).filter pb
theorem selP_succ (pb : Nat → Bool) (k : Nat) : selP pb (k + 1) = selP pb k ++ if pb k then [k] else [] := by
  unfold selP
  rw [List.range_succ, List.filter_append]
  congr 1
  cases h : pb k <;> simp [h]
theorem selP_lt {pb : Nat → Bool} {k i : Nat} (h : i ∈ selP pb k) : i < k ∧ pb i = true := by
  obtain ⟨h1, h2⟩ := List.mem_filter.1 h
  exact ⟨List.mem_range.1 h1, h2⟩
theorem selP_and (pb q : Nat → Bool) (k : Nat) : (selP pb k).filter q = selP (fun i => pb i && q i) k := by
  unfold selP
  rw [List.filter_filter]
  congr 1
  funext i
  exact Bool.and_comm _ _
theorem selP_len (pb : Nat → Bool) (k : Nat) : (selP pb k).length ≤ k := by
  have := List.length_filter_le pb (List.range k)
  simpa [selP] using this
theorem pbs_at (pb : Nat → Bool) {n i : Nat} (h : i < n) : (pbs pb n).getD i false = pb i := by simp [pbs, List.getD, h]
theorem pbs_len (pb : Nat → Bool) (n : Nat) : (pbs pb n).length = n := by simp [pbs]
theorem pbs_set (pb : Nat → Bool) (n k : Nat) (v : Bool) : (pbs pb n).set k v = pbs (fun i => if i = k then v else pb i) n := set_range n k pb v
theorem pbs_congr {pb pb' : Nat → Bool} {n : Nat} (h : ∀ i, i < n → pb i = pb' i) : pbs pb n = pbs pb' n := map_range_congr h
theorem g_sel (L : List T3) (pb : Nat → Bool) (m : Nat) : gP L (selP pb (m + 1)) = gP L (selP pb m) + if pb m then (tk L m).r else 0 := by
  rw [selP_succ]
  unfold gP
  rw [sumN_append]
  cases pb m <;> simp [sumN]
theorem used_sel (L : List T3) (left g : Int) (pb : Nat → Bool) (m : Nat) : usedP L left g (selP pb (m + 1)) = usedP L left g (selP pb m) + if pb m then (if fullP L left g m then (tk L m).q - (tk L m).p else 0) else 0 := by
  rw [selP_succ]
  unfold usedP
  rw [sumN_append]
  cases pb m <;> simp [sumN]
theorem spent_sel (L : List T3) (left g : Int) (pb : Nat → Bool) (m : Nat) : spentP L left g (selP pb (m + 1)) = spentP L left g (selP pb m) + if pb m then left * (tk L m).r / g else 0 := by
  rw [selP_succ]
  unfold spentP
  rw [sumN_append]
  cases pb m <;> simp [sumN]
theorem fold_sel {α : Type} (f : α → Nat → α) (b : α) (pb : Nat → Bool) (m : Nat) : (selP pb (m + 1)).foldl f b = if pb m then f ((selP pb m).foldl f b) m else (selP pb m).foldl f b := by
  rw [selP_succ, List.foldl_append]
  cases pb m <;> simp
end Go.Proofs.Ythannibclhidcaa
