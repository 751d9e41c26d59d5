/- Layer 10: the reference's lacks, full; its memory while room is shared out. -/
import Derived.Test.YtjippgflempdmaaMgFlex
import Derived.Deep.LoopGhost
namespace Go.Proofs.Ytjippgflempdmaa
set_option linter.unusedVariables false
set_option linter.unusedSimpArgs false
set_option maxRecDepth 100000
open Go.RowKit
attribute [local go_sem] max_fold min_fold

def lackT (t : T3) : Int := if t.q = 0 then -1 else t.q - t.p
set_option maxHeartbeats 400000 in
theorem lacks_any (t : T3) (w : World) (hp : 0 ≤ t.p ∧ t.p ≤ 16384) (hq : 0 ≤ t.q ∧ t.q ≤ 16384) : Calls Try.prog 90 #[.agg #[.int .i64 t.p, .int .i64 t.q, .int .i64 t.r]] w fun e w' => e = .returned (.int .i64 (lackT t)) ∧ Below w.heap.size w w' := by
  obtain ⟨tp, tq, tr⟩ := t
  simp only at hp hq
  by_cases h : tq = 0
  · subst h
    go_enter Try.func90, Try.ntmps90
    go_wp2
    go_ret
    exact ⟨ret_int (by simp [lackT]), (by repeat (first | exact Below.refl _ _ | with_reducible refine Below.alloc ?_ (by first | (simp; done) | (simp; omega) | omega) _ | with_reducible refine Below.setCell ?_ (by first | (simp; done) | (simp; omega) | omega) _ | with_reducible refine Below.drew ?_ | with_reducible refine Below.trans ?_ (Below.mono (by assumption) (by first | (simp; done) | (simp; omega) | omega))))⟩
  · have hb : (tq == 0) = false := by simpa using h
    go_enter Try.func90, Try.ntmps90
    go_wp2
    go_ret
    exact ⟨ret_int (by simp [lackT, h]), (by repeat (first | exact Below.refl _ _ | with_reducible refine Below.alloc ?_ (by first | (simp; done) | (simp; omega) | omega) _ | with_reducible refine Below.setCell ?_ (by first | (simp; done) | (simp; omega) | omega) _ | with_reducible refine Below.drew ?_ | with_reducible refine Below.trans ?_ (Below.mono (by assumption) (by first | (simp; done) | (simp; omega) | omega))))⟩
theorem lacks_is {t : T3} {v : Int} (h : lackT t = v) (hp : 0 ≤ t.p ∧ t.p ≤ 16384) (hq : 0 ≤ t.q ∧ t.q ≤ 16384) (w : World) : Calls Try.prog 90 #[.agg #[.int .i64 t.p, .int .i64 t.q, .int .i64 t.r]] w fun e w' => e = .returned (.int .i64 v) ∧ Below w.heap.size w w' := h ▸ lacks_any t w hp hq
def fullT (t : T3) (left g : Int) : Bool := !(t.q == 0) && decide (g * (t.q - t.p) ≤ left * t.r)
set_option maxHeartbeats 1000000 in
theorem full_any (t : T3) (left g : Int) (w : World) (ht : mayT t = true) (hl : 0 ≤ left ∧ left ≤ 32768) (hg : 0 ≤ g ∧ g ≤ 16777216) :
    Calls Try.prog 89 #[.agg #[.int .i64 t.p, .int .i64 t.q, .int .i64 t.r], .int .i64 left, .int .i64 g] w fun e w' => e = .returned (.bool (fullT t left g)) ∧ Below w.heap.size w w' := by
  have htb := (mayT_iff t).1 ht
  by_cases h : t.q = 0
  · have hk : lackT t = -1 := by simp [lackT, h]
    have hf : fullT t left g = false := by simp [fullT, h]
    have c1 := fun w => lacks_is hk htb.1 (by omega) w
    have C1 := Go.Lib.hid c1
    rw [hf]
    clear c1 hf hk h
    go_enter Try.func89, Try.ntmps89
    go_wp2
    refine region_ext mixed (by kernel_rfl) ?_
    repeat (go_big_quiet_step (first | (go_at_call 90; exact in_ext (C1.out _))))
    refine wpQuiet_nil ?_
    intro w1 hb1
    go_wp2
    go_ret
    exact ⟨rfl, (by repeat (first | exact Below.refl _ _ | with_reducible refine Below.alloc ?_ (by first | (simp; done) | (simp; omega) | omega) _ | with_reducible refine Below.setCell ?_ (by first | (simp; done) | (simp; omega) | omega) _ | with_reducible refine Below.drew ?_ | with_reducible refine Below.trans ?_ (Below.mono (by assumption) (by first | (simp; done) | (simp; omega) | omega))))⟩
  · have hk : lackT t = t.q - t.p := by simp [lackT, h]
    have c1 := fun w => lacks_is hk htb.1 (by omega) w
    have C1 := Go.Lib.hid c1
    have hm1 := mul_bd hl htb.2.2
    have hm0 : (-274877906944 ≤ g * (t.q - t.p)) ∧ g * (t.q - t.p) ≤ 274877906944 := by
      have := mul_bd2 (a := g) (b := t.q - t.p) (c := 16777216) (d := 16384) (by omega) (by omega)
      omega
    have hge : 0 ≤ t.q - t.p := by omega
    have hge2 : t.p ≤ t.q := by omega
    clear c1 hk
    by_cases hle : g * (t.q - t.p) ≤ left * t.r
    · rw [show fullT t left g = true by simp [fullT, h, hle]]
      go_enter Try.func89, Try.ntmps89
      go_wp2
      refine region_ext mixed (by kernel_rfl) ?_
      repeat (go_big_quiet_step (first | (go_at_call 90; exact in_ext (C1.out _))))
      refine wpQuiet_nil ?_
      intro w1 hb1
      go_wp2
      go_ret
      exact ⟨ret_bool (by simp [hle]), (by repeat (first | exact Below.refl _ _ | with_reducible refine Below.alloc ?_ (by first | (simp; done) | (simp; omega) | omega) _ | with_reducible refine Below.setCell ?_ (by first | (simp; done) | (simp; omega) | omega) _ | with_reducible refine Below.drew ?_ | with_reducible refine Below.trans ?_ (Below.mono (by assumption) (by first | (simp; done) | (simp; omega) | omega))))⟩
    · rw [show fullT t left g = false by simp [fullT, h, hle]]
      have hlt : left * t.r < g * (t.q - t.p) := by omega
      go_enter Try.func89, Try.ntmps89
      go_wp2
      refine region_ext mixed (by kernel_rfl) ?_
      repeat (go_big_quiet_step (first | (go_at_call 90; exact in_ext (C1.out _))))
      refine wpQuiet_nil ?_
      intro w1 hb1
      go_wp2
      go_ret
      exact ⟨ret_bool (by simp [hle]), (by repeat (first | exact Below.refl _ _ | with_reducible refine Below.alloc ?_ (by first | (simp; done) | (simp; omega) | omega) _ | with_reducible refine Below.setCell ?_ (by first | (simp; done) | (simp; omega) | omega) _ | with_reducible refine Below.drew ?_ | with_reducible refine Below.trans ?_ (Below.mono (by assumption) (by first | (simp; done) | (simp; omega) | omega))))⟩
theorem full_is {t : T3} {left g : Int} {v : Bool} (h : fullT t left g = v) (ht : mayT t = true) (hl : 0 ≤ left ∧ left ≤ 32768) (hg : 0 ≤ g ∧ g ≤ 16777216) (w : World) :
    Calls Try.prog 89 #[.agg #[.int .i64 t.p, .int .i64 t.q, .int .i64 t.r], .int .i64 left, .int .i64 g] w fun e w' => e = .returned (.bool v) ∧ Below w.heap.size w w' := h ▸ full_any t left g w ht hl hg

theorem own_differ {w : World} {b b' : Nat} {e e' : TypeId} {s s' n n' : Nat} {v v' : Value} {xs xs' : List Value} (h : w.ownsRow b e s v n xs) (h' : w.ownsRow b' e' s' v' n' xs') (he : e ≠ e') : v.ownBlock = none ∨ v.ownBlock ≠ v'.ownBlock := by
  rcases h.2 with ⟨rfl, _⟩ | ⟨g, cap, cur, rfl, _, hh, _⟩
  · exact .inl rfl
  · refine .inr fun eq => ?_
    rcases h'.2 with ⟨rfl, _⟩ | ⟨g', cap', cur', rfl, _, hh', _⟩
    · cases eq
    · simp only [Value.ownBlock, Option.some.injEq] at eq
      subst eq
      rw [hh] at hh'
      simp at hh'
      exact he hh'.2

def pbs (pb : Nat → Bool) (n : Nat) : List Bool := (List.range n).map pb
structure RShM (B : Nat) (w : World) (A : Option Addr) (L : List T3) (n : Nat) (vo vp : Value) (O : List Int) (ps : List Bool) (wr : World) : Prop where
  below : Below w.heap.size w wr
  arg : At B wr A (t3s L)
  out : wr.ownsRow w.heap.size 3 1 vo n (ints O)
  part : wr.ownsRow w.heap.size 4 1 vp n (bools ps)
section
variable {B n : Nat} {w wr : World} {A : Option Addr} {L : List T3} {O : List Int} {ps : List Bool} {vo vp : Value}
theorem RShM.alloc (h : RShM B w A L n vo vp O ps wr) (hB : B ≤ w.heap.size) (o : Obj) : RShM B w A L n vo vp O ps (wr.alloc o) := by
  have hs := h.below.size
  exact ⟨h.below.alloc hs o, h.arg.ext ((Below.refl _ _).alloc (Nat.le_refl _) o), h.out.alloc o, h.part.alloc o⟩
theorem RShM.ext {w' : World} (h : RShM B w A L n vo vp O ps wr) (hb : Below wr.heap.size wr w') : RShM B w A L n vo vp O ps w' :=
  ⟨h.below.trans (hb.mono h.below.size), h.arg.ext hb, own_below' h.out hb, own_below' h.part hb⟩
theorem RShM.store {g c : Nat} (h : RShM B w A L n (.slice (some ⟨g, 0, none⟩) n c) vp O ps wr) (hB : B ≤ w.heap.size) (i : Nat) (u : Int) : RShM B w A L n (.slice (some ⟨g, 0, none⟩) n c) vp (O.set i u) ps (wr.setCell ⟨g, i, none⟩ (.int .i64 u)) := by
  have hg := own_ge h.out g rfl
  have h1 := own_store h.out i (.int .i64 u)
  rw [ints_set] at h1
  refine ⟨h.below.setCell (p := ⟨g, i, none⟩) hg _, h.arg.below ((Below.refl B wr).setCell (p := ⟨g, i, none⟩) (by simp only; omega) _), h1, own_off h.part ?_⟩
  rcases own_differ h.part h.out (by decide) with e | e
  · rw [e]; simp
  · exact e
theorem RShM.mark {g c : Nat} (h : RShM B w A L n vo (.slice (some ⟨g, 0, none⟩) n c) O ps wr) (hB : B ≤ w.heap.size) (i : Nat) (u : Bool) : RShM B w A L n vo (.slice (some ⟨g, 0, none⟩) n c) O (ps.set i u) (wr.setCell ⟨g, i, none⟩ (.bool u)) := by
  have hg := own_ge h.part g rfl
  have h1 := own_store h.part i (.bool u)
  rw [bools_set] at h1
  refine ⟨h.below.setCell (p := ⟨g, i, none⟩) hg _, h.arg.below ((Below.refl B wr).setCell (p := ⟨g, i, none⟩) (by simp only; omega) _), own_off h.out ?_, h1⟩
  rcases own_differ h.out h.part (by decide) with e | e
  · rw [e]; simp
  · exact e
theorem RShM.cells {i : Nat} (h : RShM B w A L n vo vp O ps wr) (hi : i < n) (hO : O.length = n) (hp : ps.length = n) : ∃ go co gp cp, vo = .slice (some ⟨go, 0, none⟩) n co ∧ vp = .slice (some ⟨gp, 0, none⟩) n cp ∧ go ≠ gp ∧ go < wr.heap.size ∧ gp < wr.heap.size ∧
    wr.cell? ⟨go, i, none⟩ = some (.int .i64 (O.getD i 0)) ∧ wr.frozen? ⟨go, i, none⟩ = false ∧ wr.cell? ⟨gp, i, none⟩ = some (.bool (ps.getD i false)) ∧ wr.frozen? ⟨gp, i, none⟩ = false := by
  have ho := h.out
  have hq := h.part
  obtain ⟨Ao, co, rfl⟩ := own_shape ho
  obtain ⟨Ap, cp, rfl⟩ := own_shape hq
  obtain ⟨go, rfl, _, l1⟩ := own_head ho (by omega)
  obtain ⟨gp, rfl, _, l2⟩ := own_head hq (by omega)
  refine ⟨go, co, gp, cp, rfl, rfl, ?_, l1, l2, ?_, ho.frozenAt i, ?_, hq.frozenAt i⟩
  · rcases own_differ ho hq (by decide) with e | e
    · cases e
    · intro e2
      exact e (by simp [Value.ownBlock, e2])
  · rw [ho.cellAt i (by omega), ints_at O i (by omega)]
    simp [List.getD, show i < O.length by omega]
  · rw [hq.cellAt i (by omega), bools_at ps i (by omega)]
    simp [List.getD, show i < ps.length by omega]
end
theorem own_len {w : World} {b : Nat} {e : TypeId} {sz m m' : Nat} {v : Value} {xs : List Value} (h : w.ownsRow b e sz v m xs) (hm : m = m') : w.ownsRow b e sz v m' xs := hm ▸ h
theorem RShM.cell_at {B n : Nat} {w wr : World} {A : Option Addr} {L : List T3} {O : List Int} {ps : List Bool} {go co gp cp i : Nat} (h : RShM B w A L n (.slice (some ⟨go, 0, none⟩) n co) (.slice (some ⟨gp, 0, none⟩) n cp) O ps wr) (hi : i < n) (hO : O.length = n) (hp : ps.length = n) :
    wr.cell? ⟨go, i, none⟩ = some (.int .i64 (O.getD i 0)) ∧ wr.frozen? ⟨go, i, none⟩ = false ∧ wr.cell? ⟨gp, i, none⟩ = some (.bool (ps.getD i false)) ∧ wr.frozen? ⟨gp, i, none⟩ = false ∧ go < wr.heap.size ∧ gp < wr.heap.size := by
  obtain ⟨go', co', gp', cp', e1, e2, _, l1, l2, h1, h2, h3, h4⟩ := h.cells hi hO hp
  injection e1 with e1 _ _
  injection e1 with e1
  injection e1 with e1 _
  injection e2 with e2 _ _
  injection e2 with e2
  injection e2 with e2 _
  subst e1
  subst e2
  exact ⟨h1, h2, h3, h4, l1, l2⟩
def selP (pb : Nat → Bool) (k : Nat) : List Nat := (List.range k).filter pb
theorem selP_succ (pb : Nat → Bool) (k : Nat) : selP pb (k + 1) = selP pb k ++ if pb k then [k] else [] := by
  unfold selP
  rw [List.range_succ, List.filter_append]
  congr 1
  cases h : pb k <;> simp [h]
theorem selP_lt {pb : Nat → Bool} {k i : Nat} (h : i ∈ selP pb k) : i < k ∧ pb i = true := by
  obtain ⟨h1, h2⟩ := List.mem_filter.1 h
  exact ⟨List.mem_range.1 h1, h2⟩
theorem selP_and (pb q : Nat → Bool) (k : Nat) : (selP pb k).filter q = selP (fun i => pb i && q i) k := by
  unfold selP
  rw [List.filter_filter]
  congr 1
  funext i
  exact Bool.and_comm _ _
theorem selP_len (pb : Nat → Bool) (k : Nat) : (selP pb k).length ≤ k := by
  have := List.length_filter_le pb (List.range k)
  simpa [selP] using this
theorem pbs_at (pb : Nat → Bool) {n i : Nat} (h : i < n) : (pbs pb n).getD i false = pb i := by simp [pbs, List.getD, h]
theorem pbs_len (pb : Nat → Bool) (n : Nat) : (pbs pb n).length = n := by simp [pbs]
theorem pbs_set (pb : Nat → Bool) (n k : Nat) (v : Bool) : (pbs pb n).set k v = pbs (fun i => if i = k then v else pb i) n := set_range n k pb v
theorem pbs_congr {pb pb' : Nat → Bool} {n : Nat} (h : ∀ i, i < n → pb i = pb' i) : pbs pb n = pbs pb' n := map_range_congr h
theorem g_sel (L : List T3) (pb : Nat → Bool) (m : Nat) : gP L (selP pb (m + 1)) = gP L (selP pb m) + if pb m then (tk L m).r else 0 := by
  rw [selP_succ]
  unfold gP
  rw [sumN_append]
  cases pb m <;> simp [sumN]
theorem used_sel (L : List T3) (left g : Int) (pb : Nat → Bool) (m : Nat) : usedP L left g (selP pb (m + 1)) = usedP L left g (selP pb m) + if pb m then (if fullP L left g m then (tk L m).q - (tk L m).p else 0) else 0 := by
  rw [selP_succ]
  unfold usedP
  rw [sumN_append]
  cases pb m <;> simp [sumN]
theorem spent_sel (L : List T3) (left g : Int) (pb : Nat → Bool) (m : Nat) : spentP L left g (selP pb (m + 1)) = spentP L left g (selP pb m) + if pb m then left * (tk L m).r / g else 0 := by
  rw [selP_succ]
  unfold spentP
  rw [sumN_append]
  cases pb m <;> simp [sumN]
theorem fold_sel {α : Type} (f : α → Nat → α) (b : α) (pb : Nat → Bool) (m : Nat) : (selP pb (m + 1)).foldl f b = if pb m then f ((selP pb m).foldl f b) m else (selP pb m).foldl f b := by
  rw [selP_succ, List.foldl_append]
  cases pb m <;> simp
end Go.Proofs.Ytjippgflempdmaa

/- Layer 10: the reference's Sharing, by the same plain function. -/
namespace Go.Proofs.Ytjippgflempdmaa
set_option linter.unusedVariables false
set_option linter.unusedSimpArgs false
set_option maxRecDepth 100000
open Go.RowKit
attribute [local go_sem] max_fold min_fold

theorem arg_at {B j : Nat} {wr : World} {g o : Nat} {L : List T3} (h : At B wr (some ⟨g, o, none⟩) (t3s L)) (hj : j < L.length) : wr.cell? ⟨g, o + j * 3, none⟩ = some (.int .i64 (tk L j).p) ∧ wr.cell? ⟨g, o + j * 3 + 1, none⟩ = some (.int .i64 (tk L j).q) ∧ wr.cell? ⟨g, o + j * 3 + 2, none⟩ = some (.int .i64 (tk L j).r) := by
  obtain ⟨g', o', e, _, h0, h1, h2⟩ := arg_cells h hj
  injection e with e
  injection e with e1 e2
  subst e1
  subst e2
  exact ⟨h0, h1, h2⟩
theorem map_take_succ (L : List T3) (k : Nat) (h : k < L.length) : (L.take (k + 1)).map (·.p) = (L.take k).map (·.p) ++ [(tk L k).p] := by
  rw [List.take_succ_eq_append_getElem h, List.map_append, tk_at h]
  rfl
theorem pbs_succ (pb : Nat → Bool) (k : Nat) : pbs pb (k + 1) = pbs pb k ++ [pb k] := range_snoc k pb

set_option maxRecDepth 100000 in
set_option maxHeartbeats 8000000 in
theorem sharing_any (B : Nat) (A : Option Addr) (c : Nat) (L : List T3) (room : Int) (w : World) (hA : At B w A (t3s L)) (hB : B ≤ w.heap.size) (hl : L.length ≤ 1024) (hm : ∀ t ∈ L, mayT t = true) (hr : 0 ≤ room ∧ room ≤ 32768) :
    Calls Try.prog 74 #[.slice A L.length c, .int .i64 room] w (IntsPost (shareP L room) w) := by
  obtain ⟨n, hn⟩ : ∃ n, L.length = n := ⟨_, rfl⟩
  obtain ⟨res, hres⟩ : ∃ res, shareP L room = res := ⟨_, rfl⟩
  have HN := Go.Lib.hid hn
  have HM := Go.Lib.hid hm
  have HR := Go.Lib.hid hres
  have hln : n ≤ 1024 := by omega
  rw [hn, hres]
  clear hn hm hl hres
  go_enter Try.func74, Try.ntmps74
  go_wp2
  go_loopw [5, 6, 7, 8] (fun o_ p_ le i wr => ∃ (k : Nat), k ≤ n ∧ i = .int .i64 k ∧ le = .int .i64 (room - sumP (L.take k)) ∧ Below w.heap.size w wr ∧ At B wr A (t3s L) ∧ wr.ownsRow w.heap.size 3 1 o_ k (ints ((L.take k).map (·.p))) ∧ wr.ownsRow w.heap.size 4 1 p_ k (bools (pbs (fun i => decide (0 < (tk L i).r)) k))) (fun _ _ _ i _ => n - (intOf i).toNat)
  case atStart => exact ⟨0, by omega, rfl, by simp [sumP], Below.refl _ _, hA, World.ownsRow_nil _ _ _ _, World.ownsRow_nil _ _ _ _⟩
  case round =>
    clear hA
    obtain ⟨k, hk, rfl, rfl, hbr, hA, ho, hp⟩ := hrel
    have hsr := hbr.size
    have hkL : (L.take k).length = k := by have := HN.out; rw [List.length_take]; omega
    have hsb := sumP_bd (L := L.take k) (fun t ht => HM.out t (List.mem_of_mem_take ht))
    rw [hkL] at hsb
    by_cases hlt : k < n
    · have hli : (k : Int) < (n : Int) := by omega
      have hks : k < L.length := by have := HN.out; omega
      obtain ⟨g, o, rfl, hg, c0, c1, c2⟩ := arg_cells hA hks
      have htb := tk_bd HM.out k
      have hsu := sumP_take L k hks
      rw [← tk_at hks] at hsu
      have hms := map_take_succ L k hks
      have hps := pbs_succ (fun i => decide (0 < (tk L i).r)) k
      have hml : ((L.take k).map (·.p)).length = k := by rw [List.length_map, hkL]
      have hpl := pbs_len (fun i => decide (0 < (tk L i).r)) k
      have HS := Go.Lib.hid hsu
      have HMS := Go.Lib.hid hms
      have HPS := Go.Lib.hid hps
      clear hsu hms hps hkL
      generalize hMe : (L.take k).map (·.p) = M at *
      generalize hNe : pbs (fun i => decide (0 < (tk L i).r)) k = N at *
      generalize sumP (L.take k) = S at *
      clear hMe hNe
      have ho' : wr.ownsRow w.heap.size 3 1 u5 M.length (ints M) := by rw [hml]; exact ho
      have HML := Go.Lib.hid hml
      have HPL := Go.Lib.hid hpl
      clear hml hpl ho
      go_wp2_with (first | (at_builtin; refine append_int rfl (.tmp 24) (.tmp 30) rfl w.heap.size _ M (tk L k).p wr.heap.size rfl rfl (ho'.alloc _) (by simp [go_sem]) ?_ ?_ ?_))
      · have := HML.out; omega
      · first | omega | (simp; omega)
      intro v2 w2 hown2 hg2 _
      have hb2 := (hbr.alloc hsr (.cells #[.int .i64 (tk L k).p] 3)).grown hg2 (by simp; omega) (own_ge ho')
      have hA2 := (hA.ext ((Below.refl _ _).alloc (Nat.le_refl _) (.cells #[.int .i64 (tk L k).p] 3))).below ((Below.refl B _).grown hg2 (by simp; omega) (fun k hk => by have := own_ge ho' k hk; omega))
      have hp2 := (hp.alloc (.cells #[.int .i64 (tk L k).p] 3)).kept hg2 (own_differ hp ho' (by decide))
      obtain ⟨d0, d1, d2⟩ := arg_at hA2 hks
      have hsz2 := hb2.size
      have hown2' : w2.ownsRow w.heap.size 3 1 v2 (k + 1) (ints (M ++ [(tk L k).p])) := by
        have := HML.out
        exact own_len hown2 (by first | omega | (simp; omega))
      have hp2' : w2.ownsRow w.heap.size 4 1 u6 N.length (bools N) := by rw [HPL.out]; exact hp2
      clear hown2 hg2 hp ho' hA hbr hp2 c0 c1 c2
      go_wp2_with (first | (at_builtin; refine append_bool rfl (.tmp 32) (.tmp 39) rfl w.heap.size _ N (decide (0 < (tk L k).r)) w2.heap.size rfl rfl (hp2'.alloc _) (by simp [go_sem]) ?_ ?_ ?_))
      · have := HPL.out; omega
      · first | omega | (simp; omega)
      intro v3 w3 hown3 hg3 _
      have hb3 := (hb2.alloc hsz2 (.cells #[.bool (decide (0 < (tk L k).r))] 4)).grown hg3 (by simp; omega) (own_ge hp2')
      have hA3 := (hA2.ext ((Below.refl _ _).alloc (Nat.le_refl _) (.cells #[.bool (decide (0 < (tk L k).r))] 4))).below ((Below.refl B _).grown hg3 (by simp; omega) (fun k hk => by have := own_ge hp2' k hk; omega))
      have ho3 := (hown2'.alloc (.cells #[.bool (decide (0 < (tk L k).r))] 4)).kept hg3 (own_differ hown2' hp2' (by decide))
      obtain ⟨e0, e1, e2⟩ := arg_at hA3 hks
      have hown3' : w3.ownsRow w.heap.size 4 1 v3 (k + 1) (bools (N ++ [decide (0 < (tk L k).r)])) := by
        have := HPL.out
        exact own_len hown3 (by first | omega | (simp; omega))
      clear hown3 hg3 hp2' hown2' hA2 d0 d1 d2
      go_wp2
      go_roundw
      case rel => exact ⟨k + 1, by omega, by go_num, by rw [HS.out, Int.sub_sub], hb3, hA3, by rw [HMS.out]; exact ho3, by rw [HPS.out]; exact hown3'⟩
      case measure => simp [intOf]; omega
    · have hlt' : ¬ ((k : Int) < (n : Int)) := by omega
      have hkn : k = n := by omega
      have hLn : L.take k = L := List.take_of_length_le (by have := HN.out; omega)
      have hLk : L.length = k := by have := HN.out; omega
      rw [hLn] at ho hsb ⊢
      have hsel : selP (fun i => decide (0 < (tk L i).r)) k = startP L := by
        unfold startP selP
        rw [hkn, HN.out]
      have hmem : RShM B w A L k u5 u6 (L.map (·.p)) (pbs (fun i => decide (0 < (tk L i).r)) k) wr := ⟨hbr, hA, ho, hp⟩
      subst hkn
      clear hLn ho hp hA hkL
      by_cases hneg : room - sumP L ≤ 0
      · obtain ⟨Ao, co, rfl⟩ := own_shape hmem.out
        go_wp2
        go_ret
        rw [← HR.out]
        rw [show shareP L room = L.map (·.p) by simp [shareP, hneg]]
        exact IntsPost.mk (by simp [HN.out]) hmem.out hmem.below
      · have hinv := ShInv.start HM.out hr hneg
        have hro : ∃ f, (startP L).length < f ∧ roundsP L f (room - sumP L) (startP L) (L.map (·.p)) = res := ⟨L.length + 1, by have := hinv.plen; omega, by rw [← HR.out]; simp [shareP, hneg]⟩
        rw [← hsel] at hinv hro
        have HI := Go.Lib.hid hinv
        have HRO := Go.Lib.hid hro
        clear hinv hro hsel
        generalize room - sumP L = left0 at *
        generalize L.map (·.p) = O0 at *
        generalize (fun i => decide (0 < (tk L i).r)) = pb0 at *
        go_wp2
        go_loopg [7] (selP pb0 k).length (fun gk le wr => ∃ (left : Int) (pb : Nat → Bool) (O : List Int), gk = (selP pb k).length ∧ le = .int .i64 left ∧ RShM B w A L k u5 u6 O (pbs pb k) wr ∧ Hid (ShInv L left (selP pb k) O) ∧ Hid (∃ f, (selP pb k).length < f ∧ roundsP L f left (selP pb k) O = res))
        case atStart => exact ⟨left0, pb0, O0, rfl, rfl, hmem, HI, HRO⟩
        case round =>
          clear hmem HI HRO
          obtain ⟨left, pb, O, hgk, rfl, hmem, HI, HRO⟩ := hrel
          obtain ⟨wo, rfl⟩ : ∃ wo : World, wo = wr := ⟨_, rfl⟩
          have hleft := HI.out.left
          have hgb := g_bd HI.out
          have hpl := selP_len pb k
          have hlenO := HI.out.len
          rw [hLk] at hlenO
          have hplen := pbs_len pb k
          have HGK := Go.Lib.hid hgk
          clear hgk
          go_wp2
          go_loop [9, 10] (fun g i => ∃ m : Nat, m ≤ k ∧ i = .int .i64 m ∧ g = .int .i64 (gP L (selP pb m))) (fun _ i => k - (intOf i).toNat)
          case atStart => exact ⟨0, by omega, rfl, rfl⟩
          case round =>
            obtain ⟨m, hmk, rfl, rfl⟩ := hrel
            have hgm : 0 ≤ gP L (selP pb m) ∧ gP L (selP pb m) ≤ m * 16384 := by
              have := sumN_bd (f := fun i => (tk L i).r) (c := 0) (d := 16384) (P := selP pb m) (fun i _ => (tk_bd HM.out i).2.2)
              have h2 := selP_len pb m
              unfold gP
              omega
            by_cases hlt : m < k
            · have hli : (m : Int) < (k : Int) := by omega
              obtain ⟨go, co, gp, cp, rfl, rfl, hne, l1, l2, co_, fo, cp_, fp⟩ := hmem.cells hlt hlenO hplen
              rw [pbs_at pb hlt] at cp_
              obtain ⟨g, o, rfl, hg, c0, c1, c2⟩ := arg_cells hmem.arg (show m < L.length by omega)
              have htb := tk_bd HM.out m
              have hgs := g_sel L pb m
              have HGS := Go.Lib.hid hgs
              clear hgs
              generalize tk L m = t at *
              generalize gP L (selP pb m) = G at *
              cases hb : pb m
              · rw [hb] at cp_
                have HB2 := Go.Lib.hid hb
                clear hb
                go_wp2
                go_round
                case rel => exact ⟨m + 1, by omega, by go_num, by rw [HGS.out, HB2.out]; simp⟩
                case measure => simp [intOf]; omega
              · rw [hb] at cp_
                have HB2 := Go.Lib.hid hb
                clear hb
                go_wp2
                go_round
                case rel => exact ⟨m + 1, by omega, by go_num, by rw [HGS.out, HB2.out]; rfl⟩
                case measure => simp [intOf]; omega
            · have hlt' : ¬ ((m : Int) < (k : Int)) := by omega
              have hmk2 : m = k := by omega
              subst hmk2
              by_cases hP : selP pb m = []
              · rw [hP] at HRO
                have hO := rounds_none HRO.out
                subst hO
                have hg0 : gP L (selP pb m) = 0 := by rw [hP]; rfl
                rw [hg0]
                clear hg0 hgm hgb
                obtain ⟨Ao, co, rfl⟩ := own_shape hmem.out
                go_wp2
                go_ret
                exact IntsPost.mk hlenO hmem.out hmem.below
              · have hpos : 0 < (selP pb m).length := List.length_pos_iff.2 hP
                have HPN := Go.Lib.hid hP
                obtain ⟨G, hGe⟩ : ∃ G, gP L (selP pb m) = G := ⟨_, rfl⟩
                rw [hGe] at hgb hgm ⊢
                have hG0 : (G == 0) = false := by simp; omega
                have HG := Go.Lib.hid hGe
                clear hP hGe hlt hlt' hmk
                go_wp2
                go_loopw [11, 12, 13] (fun us so i wr => ∃ x : Nat, x ≤ m ∧ i = .int .i64 x ∧ us = .int .i64 (usedP L left G (selP pb x)) ∧ so = .bool (!decide ((restP L left G (selP pb x)).length = (selP pb x).length)) ∧ RShM B w A L m u5 u6 ((selP pb x).foldl (fillO L left G) O) (pbs (fun i => if i < x then pb i && !fullP L left G i else pb i) m) wr ∧ wo.heap.size ≤ wr.heap.size) (fun _ _ i _ => m - (intOf i).toNat)
                case atStart => exact ⟨0, by omega, rfl, rfl, rfl, by rw [pbs_congr (pb' := pb) (fun i hi => by simp)]; exact hmem, Nat.le_refl _⟩
                case round =>
                  clear hmem
                  obtain ⟨x, hxm, rfl, rfl, rfl, hmem, hsw⟩ := hrel
                  have hub := used_rough HM.out left G (selP pb x)
                  have hsl := selP_len pb x
                  by_cases hlt : x < m
                  · have hli : (x : Int) < (m : Int) := by omega
                    have hlen4 : ((selP pb x).foldl (fillO L left G) O).length = m := by rw [fold_len _ (fill_len L left G), hlenO]
                    have hps4 := pbs_len (fun i => if i < x then pb i && !fullP L left G i else pb i) m
                    obtain ⟨go, co, gp, cp, rfl, rfl, hne, l1, l2, co_, fo, cp_, fp⟩ := hmem.cells hlt hlen4 hps4
                    rw [pbs_at _ hlt, if_neg (Nat.lt_irrefl x)] at cp_
                    obtain ⟨g, o, rfl, hg, c0, c1, c2⟩ := arg_cells hmem.arg (show x < L.length by omega)
                    have hmt : mayT (tk L x) = true := by
                      rw [tk_at (by omega)]
                      exact HM.out _ (List.getElem_mem _)
                    have htb := tk_bd HM.out x
                    have hgs := used_sel L left G pb x
                    have hfs := fold_sel (fillO L left G) O pb x
                    have hss := selP_succ pb x
                    have HGS := Go.Lib.hid hgs
                    have HFS := Go.Lib.hid hfs
                    have HSS := Go.Lib.hid hss
                    have HMT := Go.Lib.hid hmt
                    have hne' := Ne.symm hne
                    clear hgs hfs hss hmt
                    have hgl : 0 ≤ G ∧ G ≤ 16777216 := by omega
                    cases hb : pb x
                    · rw [hb] at cp_
                      have hpe : pbs (fun i => if i < x then pb i && !fullP L left G i else pb i) m = pbs (fun i => if i < x + 1 then pb i && !fullP L left G i else pb i) m := pbs_congr fun i hi => by
                        by_cases e : i = x
                        · subst e
                          simp [hb]
                        · have : (i < x + 1) = (i < x) := by simp; omega
                          simp [this]
                      rw [hpe] at hmem
                      have HB2 := Go.Lib.hid hb
                      clear hb hpe
                      generalize tk L x = t at *
                      go_wp2
                      go_roundw
                      case rel => exact ⟨x + 1, by omega, by go_num, by rw [HGS.out, HB2.out]; simp, by rw [HSS.out, HB2.out]; simp, by rw [HFS.out, HB2.out]; exact hmem, hsw⟩
                      case measure => simp [intOf]; omega
                    · rw [hb] at cp_
                      have HB2 := Go.Lib.hid hb
                      have hft : fullT (tk L x) left G = fullP L left G x := rfl
                      clear hb
                      cases hfull : fullP L left G x
                      · rw [hfull] at hft
                        have hpe : pbs (fun i => if i < x then pb i && !fullP L left G i else pb i) m = pbs (fun i => if i < x + 1 then pb i && !fullP L left G i else pb i) m := pbs_congr fun i hi => by
                          by_cases e : i = x
                          · subst e
                            simp [hfull, HB2.out]
                          · have : (i < x + 1) = (i < x) := by simp; omega
                            simp [this]
                        rw [hpe] at hmem
                        have HFU := Go.Lib.hid hfull
                        have HFT := Go.Lib.hid hft
                        clear hpe hfull hft
                        go_wp2_with fail
                        refine (full_is HFT.out HMT.out hleft hgl _).mono ?_
                        rintro e w2 ⟨rfl, hb2⟩
                        have hmem2 := hmem.ext hb2
                        have hs2 := hb2.size
                        clear hmem
                        go_wp2
                        go_roundw
                        case rel => exact ⟨x + 1, by omega, by go_num, by rw [HGS.out, HB2.out, HFU.out]; simp, by rw [HSS.out, HB2.out]; unfold restP; rw [List.filter_append]; simp [HFU.out], by rw [HFS.out, HB2.out]; simp only [if_true]; rw [show fillO L left G ((selP pb x).foldl (fillO L left G) O) x = ((selP pb x).foldl (fillO L left G) O) by simp [fillO, HFU.out]]; exact hmem2, by omega⟩
                        case measure => simp [intOf]; omega
                      · rw [hfull] at hft
                        have hpe : (pbs (fun i => if i < x then pb i && !fullP L left G i else pb i) m).set x false = pbs (fun i => if i < x + 1 then pb i && !fullP L left G i else pb i) m := by
                          rw [pbs_set]
                          exact pbs_congr fun i hi => by
                            by_cases e : i = x
                            · subst e
                              simp [hfull]
                            · have : (i < x + 1) = (i < x) := by simp; omega
                              simp [this, e]
                        have hq : (tk L x).q ≠ 0 := by
                          intro e
                          simp [fullP, e] at hfull
                        have hlk : lackT (tk L x) = (tk L x).q - (tk L x).p := by simp [lackT, hq]
                        have HFU := Go.Lib.hid hfull
                        have HFT := Go.Lib.hid hft
                        have HPE := Go.Lib.hid hpe
                        have HLK := Go.Lib.hid hlk
                        clear hpe hfull hft hlk
                        go_wp2_with fail
                        refine (full_is HFT.out HMT.out hleft hgl _).mono ?_
                        rintro e w2 ⟨rfl, hb2⟩
                        have hmem2 := hmem.ext hb2
                        have hs2 := hb2.size
                        obtain ⟨d1, d2, d3, d4, d5, d6⟩ := hmem2.cell_at hlt hlen4 hps4
                        obtain ⟨f0, f1, f2⟩ := arg_at hmem2.arg (show x < L.length by omega)
                        have hmem3 := (hmem2.store hB x (tk L x).q).mark hB x false
                        rw [HPE.out] at hmem3
                        have hfin := HFS.out
                        rw [HB2.out] at hfin
                        simp only [if_true] at hfin
                        rw [show fillO L left G ((selP pb x).foldl (fillO L left G) O) x = ((selP pb x).foldl (fillO L left G) O).set x (tk L x).q by simp [fillO, HFU.out]] at hfin
                        rw [← hfin] at hmem3
                        have HFIN := Go.Lib.hid hfin
                        obtain ⟨q0, q1, q2⟩ := arg_at hmem3.arg (show x < L.length by omega)
                        clear hmem hmem2 hfin c0 c1 c2 co_ cp_ fo fp
                        go_wp2_with fail
                        refine (lacks_is HLK.out htb.1 (by omega) _).mono ?_
                        rintro e w3 ⟨rfl, hb3⟩
                        have hmem4 := hmem3.ext hb3
                        have hs3 := hb3.size
                        simp at hs3
                        clear hmem3 q0 q1 q2 d1 d2 d3 d4 f0 f1 f2
                        go_wp2
                        go_roundw
                        case rel => exact ⟨x + 1, by omega, by go_num, by rw [HGS.out, HB2.out, HFU.out]; simp, by rw [HSS.out, HB2.out]; unfold restP; rw [List.filter_append]; have := rest_le L left G (selP pb x); unfold restP at this; simp [HFU.out]; omega, hmem4, by omega⟩
                        case measure => simp [intOf]; omega
                  · have hlt' : ¬ ((x : Int) < (m : Int)) := by omega
                    have hxm2 : x = m := by omega
                    subst hxm2
                    have hps5 : pbs (fun i => if i < x then pb i && !fullP L left G i else pb i) x = pbs (fun i => pb i && !fullP L left G i) x := pbs_congr fun i hi => by simp [hi]
                    rw [hps5] at hmem
                    have hsel5 : restP L left G (selP pb x) = selP (fun i => pb i && !fullP L left G i) x := selP_and pb (fun i => !fullP L left G i) x
                    by_cases hsame : (restP L left G (selP pb x)).length = (selP pb x).length
                    · obtain ⟨hre, hnone⟩ := rest_same hsame
                      have hps6 : pbs (fun i => pb i && !fullP L left G i) x = pbs pb x := pbs_congr fun i hi => by
                        cases hb : pb i
                        · simp
                        · have : i ∈ selP pb x := List.mem_filter.2 ⟨List.mem_range.2 hi, hb⟩
                          simp [hnone i this]
                      rw [fill_same hnone, hps6] at hmem
                      have hsp := spent_bd HI.out HPN.out
                      rw [HG.out] at hsp
                      have hdone := rounds_done HRO.out HPN.out (by rw [HG.out]; exact hsame)
                      unfold doneP at hdone
                      rw [HG.out] at hdone
                      have hlr : ∀ i ∈ selP pb x, (tk L i).r ≤ G := fun i hi => HG.out ▸ member_le HM.out hi
                      have hpd : ∀ i ∈ selP pb x, 0 ≤ left * (tk L i).r / G ∧ left * (tk L i).r / G ≤ 32768 := fun i hi => by
                        have := part_bd (L := L) (left := left) (g := G) hleft.1 (i := i) (tk_bd HM.out i).2.2.1 (hlr i hi) (by omega)
                        omega
                      have hsub : ∀ y, y ≤ x → ∀ i ∈ selP pb y, i ∈ selP pb x := fun y hy i hi => by
                        have := selP_lt hi
                        exact List.mem_filter.2 ⟨List.mem_range.2 (by omega), this.2⟩
                      have hgo : ∀ y, y ≤ x → _ := fun y hy => grow_out (L := L) (left := left) (g := G) (selP pb y) (fun i hi => hpd i (hsub y hy i hi)) O 16384 (by omega) HI.out.out
                      have hspb : ∀ y, y ≤ x → 0 ≤ spentP L left G (selP pb y) ∧ spentP L left G (selP pb y) ≤ y * 32768 := fun y hy => by
                        have h1 := sumN_bd (f := fun i => left * (tk L i).r / G) (c := 0) (d := 32768) (P := selP pb y) (fun i hi => hpd i (hsub y hy i hi))
                        have h2 := selP_len pb y
                        unfold spentP
                        omega
                      have hdec : (!decide ((restP L left G (selP pb x)).length = (selP pb x).length)) = false := by simp [hsame]
                      rw [hdec]
                      have HPD := Go.Lib.hid hpd
                      have HGO := Go.Lib.hid hgo
                      have HD := Go.Lib.hid hdone
                      have HSP := Go.Lib.hid hsp
                      have HSB := Go.Lib.hid hspb
                      clear hre hnone hpd hgo hdone hlr HI HRO hsp hps5 hps6 hsel5 hsame hdec hspb hsub hub hlt hsw HGK hlt' hxm
                      generalize usedP L left G (selP pb x) = U at *
                      clear hsl
                      go_wp2
                      go_loopw [14, 15] (fun ov i wr => ∃ y : Nat, y ≤ x ∧ i = .int .i64 y ∧ ov = .int .i64 (left - spentP L left G (selP pb y)) ∧ RShM B w A L x u5 u6 ((selP pb y).foldl (growO L left G) O) (pbs pb x) wr) (fun _ i _ => x - (intOf i).toNat)
                      case atStart => exact ⟨0, by omega, rfl, by simp [spentP, selP, sumN], hmem⟩
                      case round =>
                        clear hmem
                        obtain ⟨y, hyx, rfl, rfl, hmem⟩ := hrel
                        have hsk := HSB.out y hyx
                        have hyl := selP_len pb y
                        by_cases hlt : y < x
                        · have hli : (y : Int) < (x : Int) := by omega
                          have hlen5 : ((selP pb y).foldl (growO L left G) O).length = x := by rw [fold_len _ (grow_len L left G), hlenO]
                          obtain ⟨go, co, gp, cp, rfl, rfl, hne, l1, l2, co_, fo, cp_, fp⟩ := hmem.cells hlt hlen5 hplen
                          rw [pbs_at _ hlt] at cp_
                          obtain ⟨g, o, rfl, hg, c0, c1, c2⟩ := arg_cells hmem.arg (show y < L.length by omega)
                          have lg := World.block_lt_of_cell? _ _ c0
                          have htb := tk_bd HM.out y
                          have hss := spent_sel L left G pb y
                          have hfs := fold_sel (growO L left G) O pb y
                          have HSS := Go.Lib.hid hss
                          have HFS := Go.Lib.hid hfs
                          clear hss hfs
                          have hm1 := mul_bd hleft htb.2.2
                          have hob := getD_mem (Q := fun o => 0 ≤ o ∧ o ≤ 33571000) (O := (selP pb y).foldl (growO L left G) O) (fun o ho => by
                            have := HGO.out y hyx o ho
                            omega) (by omega) y
                          cases hb : pb y
                          · rw [hb] at cp_
                            have HB2 := Go.Lib.hid hb
                            clear hb
                            go_wp2
                            go_roundw
                            case rel => exact ⟨y + 1, by omega, by go_num, by rw [HSS.out, HB2.out]; simp, by rw [HFS.out, HB2.out]; exact hmem⟩
                            case measure => simp [intOf]; omega
                          · rw [hb] at cp_
                            have HB2 := Go.Lib.hid hb
                            have hpj := HPD.out y (List.mem_filter.2 ⟨List.mem_range.2 hlt, hb⟩)
                            clear hb
                            have hGpos : 0 < G := by omega
                            have hquo : (left * (tk L y).r).tdiv G = left * (tk L y).r / G := Int.tdiv_eq_ediv_of_nonneg hm1.1
                            have hfo : growO L left G ((selP pb y).foldl (growO L left G) O) y = ((selP pb y).foldl (growO L left G) O).set y (((selP pb y).foldl (growO L left G) O).getD y 0 + left * (tk L y).r / G) := rfl
                            obtain ⟨ov, hov⟩ : ∃ ov, ((selP pb y).foldl (growO L left G) O).getD y 0 = ov := ⟨_, rfl⟩
                            rw [hov] at co_ hob hfo
                            have HOV := Go.Lib.hid hov
                            have HFO := Go.Lib.hid hfo
                            clear hfo hov
                            go_wp2
                            refine region_ext_last 1 mixed (by kernel_rfl) ?_
                            simp only [List.length_cons, List.length_nil, Nat.reduceAdd, Nat.reduceSub, List.take_succ_cons, List.take_zero, List.drop_succ_cons, List.drop_zero]
                            repeat (go_big_quiet_step (fail))
                            refine wpQuiet_nil ?_
                            intro w2 hb2
                            have hmem2 := hmem.ext hb2
                            obtain ⟨d1, d2, d3, d4, d5, d6⟩ := hmem2.cell_at hlt hlen5 hplen
                            rw [HOV.out] at d1
                            have hmem3 := hmem2.store hB y (ov + left * (tk L y).r / G)
                            have hfin := HFS.out
                            rw [HB2.out] at hfin
                            simp only [if_true] at hfin
                            rw [HFO.out] at hfin
                            rw [← hfin] at hmem3
                            obtain ⟨f0, f1, f2⟩ := arg_at hmem3.arg (show y < L.length by omega)
                            have HMEM := Go.Lib.hid hmem3
                            clear hmem hmem2 hmem3 hfin c0 c1 c2 co_ fo cp_ fp d3 d4 HFS HFO
                            generalize spentP L left G (selP pb y) = U5 at *
                            go_wp2
                            go_roundw
                            case rel => exact ⟨y + 1, by omega, by go_num, by rw [HSS.out, HB2.out]; simp only [if_true]; rw [Int.sub_sub], HMEM.out⟩
                            case measure => simp [intOf]; omega
                        · have hlt' : ¬ ((y : Int) < (x : Int)) := by omega
                          have hyx2 : y = x := by omega
                          subst hyx2
                          have hsp := HSP.out
                          have hgo := HGO.out y (Nat.le_refl _)
                          have hgo' : ∀ o ∈ (selP pb y).foldl (growO L left G) O, 0 ≤ o ∧ o ≤ 33571000 := fun o ho => by
                            have := hgo o ho
                            omega
                          obtain ⟨T, hTe⟩ : ∃ T : Nat, left - spentP L left G (selP pb y) = (T : Int) := ⟨(left - spentP L left G (selP pb y)).toNat, by omega⟩
                          have hd := HD.out
                          rw [hTe, Int.toNat_natCast] at hd
                          have hlen5 : ((selP pb y).foldl (growO L left G) O).length = y := by rw [fold_len _ (grow_len L left G), hlenO]
                          have hT : T ≤ 1024 := by omega
                          rw [hTe]
                          have HD2 := Go.Lib.hid hd
                          have HG5 := Go.Lib.hid hgo'
                          clear hsp hgo hgo' hTe hd HD HGO HSP hsk HPD HSB hlt
                          generalize (selP pb y).foldl (growO L left G) O = O5 at *
                          go_wp2
                          go_loopw [14, 16] (fun ov i wr => ∃ z : Nat, z ≤ y ∧ i = .int .i64 z ∧ ov = .int .i64 ((T - (selP pb z).length : Nat) : Int) ∧ RShM B w A L y u5 u6 (((selP pb z).take T).foldl bumpO O5) (pbs pb y) wr) (fun _ i _ => y - (intOf i).toNat)
                          case atStart => exact ⟨0, by omega, rfl, by simp [selP], by simpa [selP] using hmem⟩
                          case round =>
                            clear hmem
                            obtain ⟨z, hzy, rfl, rfl, hmem⟩ := hrel
                            by_cases hlt : z < y
                            · have hli : (z : Int) < (y : Int) := by omega
                              have hlen6 : (((selP pb z).take T).foldl bumpO O5).length = y := by rw [fold_len _ bump_len, hlen5]
                              obtain ⟨go, co, gp, cp, rfl, rfl, hne, l1, l2, co_, fo, cp_, fp⟩ := hmem.cells hlt hlen6 hplen
                              rw [pbs_at _ hlt] at cp_
                              have hss := selP_succ pb z
                              cases hb : pb z
                              · rw [hb] at cp_ hss
                                have hs2 : selP pb (z + 1) = selP pb z := by rw [hss]; simp
                                have HS2 := Go.Lib.hid hs2
                                clear hb hss hs2
                                go_wp2
                                go_roundw
                                case rel => exact ⟨z + 1, by omega, by go_num, by rw [HS2.out], by rw [HS2.out]; exact hmem⟩
                                case measure => simp [intOf]; omega
                              · rw [hb] at cp_ hss
                                have hs2 : selP pb (z + 1) = selP pb z ++ [z] := by rw [hss]; simp
                                have HS2 := Go.Lib.hid hs2
                                clear hb hss hs2
                                by_cases hlq : (selP pb z).length < T
                                · have htk : (selP pb z ++ [z]).take T = (selP pb z).take T ++ [z] := by
                                    rw [List.take_append]
                                    congr 1
                                    have : 1 ≤ T - (selP pb z).length := by omega
                                    exact List.take_of_length_le (by simpa using this)
                                  have hV : ((T - (selP pb z).length : Nat) : Int) = (T : Int) - (selP pb z).length := by omega
                                  have hV2 : ((T - (selP pb z ++ [z]).length : Nat) : Int) = (T : Int) - (selP pb z).length - 1 := by simp; omega
                                  have hob := getD_mem (Q := fun o => 0 ≤ o ∧ o ≤ 33573000) (O := ((selP pb z).take T).foldl bumpO O5) (fun o ho => by
                                    have h1 := bump_out ((selP pb z).take T) O5 33571000 (by omega) HG5.out o ho
                                    have h2 : ((selP pb z).take T).length ≤ 1024 := by rw [List.length_take]; omega
                                    omega) (by omega) z
                                  rw [hV]
                                  have hmem2 := hmem.store hB z ((((selP pb z).take T).foldl bumpO O5).getD z 0 + 1)
                                  have hfin : ((selP pb z ++ [z]).take T).foldl bumpO O5 = (((selP pb z).take T).foldl bumpO O5).set z ((((selP pb z).take T).foldl bumpO O5).getD z 0 + 1) := by
                                    rw [htk, List.foldl_append]
                                    rfl
                                  rw [← hfin] at hmem2
                                  have HMEM := Go.Lib.hid hmem2
                                  have HV2 := Go.Lib.hid hV2
                                  have hlqi : ((selP pb z).length : Int) < (T : Int) := by omega
                                  clear hmem2 hfin htk hV hV2 hmem
                                  generalize (((selP pb z).take T).foldl bumpO O5).getD z 0 = ov at *
                                  generalize hq : ((selP pb z).length : Int) = q at *
                                  have hq0 : 0 ≤ q := by omega
                                  have hq1 : 0 < (T : Int) - q := by omega
                                  clear hq
                                  go_wp2
                                  go_roundw
                                  case rel => exact ⟨z + 1, by omega, by go_num, by rw [HS2.out, HV2.out], by rw [HS2.out]; exact HMEM.out⟩
                                  case measure => simp [intOf]; omega
                                · have htk : (selP pb z ++ [z]).take T = (selP pb z).take T := by
                                    rw [List.take_append]
                                    have : T - (selP pb z).length = 0 := by omega
                                    rw [this]
                                    simp
                                  have hV : (T - (selP pb z).length : Nat) = 0 := by omega
                                  have hV2 : (T - (selP pb z ++ [z]).length : Nat) = 0 := by simp; omega
                                  rw [hV]
                                  have HV2 := Go.Lib.hid hV2
                                  have HTK := Go.Lib.hid htk
                                  clear hV hV2 htk
                                  go_wp2
                                  go_roundw
                                  case rel => exact ⟨z + 1, by omega, by go_num, by rw [HS2.out, HV2.out], by rw [HS2.out, HTK.out]; exact hmem⟩
                                  case measure => simp [intOf]; omega
                            · have hlt' : ¬ ((z : Int) < (y : Int)) := by omega
                              have hzy2 : z = y := by omega
                              subst hzy2
                              rw [HD2.out] at hmem
                              have hrl : res.length = z := by rw [← HD2.out, fold_len _ bump_len, hlen5]
                              obtain ⟨Ao, co, rfl⟩ := own_shape hmem.out
                              go_wp2
                              go_ret
                              exact IntsPost.mk hrl hmem.out hmem.below
                    · have hst := HI.out.step
                      have hub2 := used_bd HI.out
                      have hro := rounds_step HRO.out HPN.out (by rw [HG.out]; exact hsame)
                      have hle := rest_le L left G (selP pb x)
                      rw [HG.out] at hst hub2 hro
                      have hdec : (!decide ((restP L left G (selP pb x)).length = (selP pb x).length)) = true := by simp [hsame]
                      have hlt6 : (selP (fun i => pb i && !fullP L left G i) x).length < (selP pb x).length := by rw [← hsel5]; omega
                      rw [hsel5] at hst hro
                      have HST := Go.Lib.hid hst
                      have HRO2 := Go.Lib.hid hro
                      rw [hdec]
                      have hgk2 := HGK.out
                      clear hst hro HI HRO hsame hle hps5 hsel5 hdec
                      generalize usedP L left G (selP pb x) = U at *
                      generalize (selP pb x).foldl (fillO L left G) O = O2 at *
                      generalize (fun i => pb i && !fullP L left G i) = pb2 at *
                      go_wp2
                      go_roundg (selP pb2 x).length
                      case rel => exact ⟨left - U, pb2, O2, rfl, rfl, hmem, HST, HRO2⟩
                      case measure => omega
end Go.Proofs.Ytjippgflempdmaa
