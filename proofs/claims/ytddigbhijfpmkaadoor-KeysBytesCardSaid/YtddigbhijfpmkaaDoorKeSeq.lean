/- Layer 21: strings.SplitSeq at a blank: its iterator's contract. -/
import Derived.Test.YtddigbhijfpmkaaDoorRf
import Derived.Test.YtddigbhijfpmkaaDoorKeA
namespace Go.Proofs.YtddigbhijfpmkaaDoor
set_option linter.unusedVariables false
set_option linter.unusedSimpArgs false
set_option maxRecDepth 100000
open Go.RowKit Go.Shelf Go.Lib
attribute [local go_sem] Oper.semAt_some
set_option maxRecDepth 100000
set_option maxHeartbeats 4000000

theorem tabs_same {w w' : World} (h : Tabs w) (hb : ∀ k, k < w.heap.size → w'.heap[k]? = w.heap[k]?) : Tabs w' := by
  have hc : ∀ (p : Addr) v, w.cell? p = some v → w'.cell? p = some v := fun p v hv => by
    rw [World.cell?_of_block (hb p.block (World.block_lt_of_cell? _ _ hv))]
    exact hv
  refine ⟨⟨fun c hl => hc _ _ (h.1.1 c hl), fun i hi => ⟨hc _ _ (h.1.2 i hi).1, hc _ _ (h.1.2 i hi).2⟩⟩, ?_⟩
  obtain ⟨m, hm⟩ := h.2
  exact ⟨m, hc _ _ hm⟩

/-- The blocks that the iterator reads. -/
def SeqR (w00 : World) (X : Nat) : Nat → Prop := fun k => k < w00.heap.size ∨ k = X ∨ k = X + 1 ∨ k = X + 2
/-- The iterator's boxes: the text that is left, the blank, nothing kept of it. -/
structure SeqAt (w00 : World) (X : Nat) (r : ByteArray) (W : World) : Prop where
  cs : W.cell? ⟨X, 0, none⟩ = some (.string r)
  fs : W.frozen? ⟨X, 0, none⟩ = false
  cp : W.cell? ⟨X + 1, 0, none⟩ = some (.string { data := #[32] })
  cz : W.cell? ⟨X + 2, 0, none⟩ = some (.int .i64 0)
  old : ∀ k, k < w00.heap.size → W.heap[k]? = w00.heap[k]?
  tabs : Tabs w00
  le : w00.heap.size ≤ X
theorem SeqAt.pin {w00 : World} {X : Nat} {r : ByteArray} {W W' : World} (h : SeqAt w00 X r W) (p : Pin (SeqR w00 X) W W') : SeqAt w00 X r W' := by
  have e0 := p.2 X (.inr (.inl rfl))
  have e1 := p.2 (X + 1) (.inr (.inr (.inl rfl)))
  have e2 := p.2 (X + 2) (.inr (.inr (.inr rfl)))
  exact ⟨(World.cell?_of_block (w := W) e0).trans h.cs, (World.frozen?_of_block (w := W) e0).trans h.fs, (World.cell?_of_block (w := W) e1).trans h.cp, (World.cell?_of_block (w := W) e2).trans h.cz,
    fun k hk => (p.2 k (.inl hk)).trans (h.old k hk), h.tabs, h.le⟩
theorem SeqAt.store {w00 : World} {X : Nat} {r : ByteArray} {W : World} (h : SeqAt w00 X r W) (r' : ByteArray) : SeqAt w00 X r' (W.setCell ⟨X, 0, none⟩ (.string r')) := by
  have hle := h.le
  refine ⟨World.cell?_setCell_same' _ _ _ (by rw [h.cs]; rfl), by rw [World.frozen?_setCell]; exact h.fs, ?_, ?_, fun k hk => (Below.heap_setCell _ _ _ _ (by show k ≠ X; omega)).trans (h.old k hk), h.tabs, h.le⟩
  · rw [World.cell?_of_block (w := W) (Below.heap_setCell _ _ _ _ (by show X + 1 ≠ X; omega))]
    exact h.cp
  · rw [World.cell?_of_block (w := W) (Below.heap_setCell _ _ _ _ (by show X + 2 ≠ X; omega))]
    exact h.cz
/-- How long the text is that is left. -/
def leftAt (X : Nat) (W : World) : Nat := match W.cell? ⟨X, 0, none⟩ with | some (.string r) => r.size | _ => 0
theorem SeqAt.left {w00 : World} {X : Nat} {r : ByteArray} {W : World} (h : SeqAt w00 X r W) : leftAt X W = r.size := by unfold leftAt; rw [h.cs]

theorem seq_iter (n : Nat) (w00 w0 : World) (X : Nat) (s : ByteArray) (h : SeqAt w00 X s w0) (hX : X + 2 < w0.heap.size) (hs : s.size ≤ 4000000) :
    Iter Fence.wide n Tryd.prog 60 #[.pointer (some ⟨X + 1, 0, none⟩), .pointer (some ⟨X, 0, none⟩), .pointer (some ⟨X + 2, 0, none⟩)] (fun x : ByteArray => #[.string x]) (fun k => k = X) (SeqR w00 X)
      (fun xs => xs.map (·.data.toList) = cutB s.data.toList) (fun pre => pre.map (·.data.toList) <+: cutB s.data.toList) w0 := by
  intro lp J Jx W hW hJ hJx hY h0
  dsimp only at hY
  have hle := h.le
  have hlt : ∀ k, SeqR w00 X k → k < w0.heap.size := fun k hk => by unfold SeqR at hk; omega
  have hS : SeqAt w00 X s W := h.pin ⟨hW.size, fun k hk => hW.block k (hlt k hk) (fun x => x)⟩
  refine callsIn_of_wp Tryd.func60 rfl trivial ?_ rfl
  simp only [Tryd.ntmps60, List.size_toArray, List.length_cons, List.length_nil, Nat.reduceAdd, Nat.reduceSub, Array.replicate_succ, Array.replicate_zero, List.push_toArray, List.append_toArray, List.nil_append, List.cons_append]
  have cp0 := hS.cp
  gi_wp2
  gi_loopw [7] (fun _ wr => ∃ (pre : List ByteArray) (r : ByteArray), cutB s.data.toList = pre.map (·.data.toList) ++ cutB r.data.toList ∧ SeqAt w00 X r wr ∧ J pre wr ∧ r.size ≤ s.size) (fun _ wr => leftAt X wr)
  case atStart => exact ⟨[], s, rfl, hS, h0, Nat.le_refl _⟩
  case round =>
    obtain ⟨pre, r, hc, hR, hj, hrs⟩ := hrel
    have cs := hR.cs
    have fs := hR.fs
    have cp := hR.cp
    have cz := hR.cz
    have CI := idx_any r wr (tabs_same hR.tabs hR.old) (by omega)
    have hps : J pre wr := hj
    rcases idx_split r.data.toList with ⟨hi, hcut⟩ | ⟨k, hi, hk, hcut⟩
    · rw [hi] at CI
      have hsp : (pre ++ [r]).map (·.data.toList) = cutB s.data.toList := by rw [hc, hcut]; simp
      obtain ⟨fn, tmps, assign, body, hy, hRd⟩ := hY pre r wr hj (by rw [hsp]; exact List.prefix_refl _)
      gi_wp2_with (refine ⟨trivial, fun h => (by cases h), ?_⟩; refine (callsIn_wide.2 CI).mono ?_; rintro e w' ⟨rfl, rfl⟩)
      refine ⟨fun h => (by cases h), hRd.mono ?_⟩
      rintro e W' (⟨rfl, hJ', hk'⟩ | ⟨rfl, hJx'⟩)
      · gi_wp2
        go_end0
        exact ⟨⟨_, rfl⟩, .inl ⟨_, hsp, hJ'⟩⟩
      · gi_wp2
        go_end0
        exact ⟨⟨_, rfl⟩, .inr ⟨_, by rw [hsp]; exact List.prefix_refl _, hJx'⟩⟩
    · rw [hi] at CI
      have hkr : k < r.size := by rw [← ba_len]; exact hk
      have hsp : (pre ++ [r.extract 0 k]).map (·.data.toList) <+: cutB s.data.toList := by
        rw [hc, hcut, ba_take]
        simp
      obtain ⟨fn, tmps, assign, body, hy, hRd⟩ := hY pre (r.extract 0 k) wr hj hsp
      have hk0 : ¬ ((k : Int) < 0) := by omega
      have hkz : (k : Int) ≤ (r.size : Int) := by omega
      have hkz1 : (k : Int) + 1 ≤ (r.size : Int) := by omega
      gi_wp2_with (refine ⟨trivial, fun h => (by cases h), ?_⟩; refine (callsIn_wide.2 CI).mono ?_; rintro e w' ⟨rfl, rfl⟩)
      refine ⟨fun h => (by cases h), hRd.mono ?_⟩
      rintro e W' (⟨rfl, hJ', hk'⟩ | ⟨rfl, hJx'⟩)
      · have hR' := hR.pin hk'
        have cs' := hR'.cs
        have fs' := hR'.fs
        have cp' := hR'.cp
        gi_wp2
        have hst := hR'.store (r.extract (k + 1) r.size)
        have hsz : (r.extract (k + 1) r.size).size < r.size := by rw [ByteArray.size_extract]; omega
        refine ⟨⟨pre ++ [r.extract 0 k], _, ?_, hst, hJ _ _ _ hJ' (Turn.set (C := fun k => k = X) (p := ⟨X, 0, none⟩) rfl _), by omega⟩, ?_⟩
        · rw [hc, hcut, ba_take, ba_drop]
          simp
        · rw [hst.left, hR.left]
          exact hsz
      · gi_wp2
        refine bodyPost_ret (results_none rfl _ _ _) rfl ?_
        exact ⟨⟨_, rfl⟩, .inr ⟨_, hsp, hJx'⟩⟩
end Go.Proofs.YtddigbhijfpmkaaDoor
