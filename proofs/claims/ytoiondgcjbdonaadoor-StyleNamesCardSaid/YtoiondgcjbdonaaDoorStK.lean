/- Layer 5: the numbers of rules in order: sort.SliceStable with the program's comparison, at every length. -/
import Derived.Test.YtoiondgcjbdonaaDoorStMem
namespace Go.Proofs.YtoiondgcjbdonaaDoor
set_option linter.unusedVariables false
set_option linter.unusedSimpArgs false
set_option maxRecDepth 100000
open Go.RowKit Go.Shelf Go.Lib Go.Sort

theorem rus_cells {w : World} {g o : Nat} {L : List Ru} (hc : ∀ j v, (rus L)[j]? = some v → w.cell? ⟨g, o + j, none⟩ = some v) {k : Nat} (hk : k < L.length) : ∀ j v, j < 14 → (ruC L[k])[j]? = some v → w.cell? ⟨g, o + k * 14 + j, none⟩ = some v := fun j v hj hv => by
  rw [Nat.add_assoc]; exact hc _ _ ((rus_at L k j hk hj).trans hv)
theorem enc_own {base g n cap : Nat} {w : World} {xs : List Int} (h : w.ownsRow base 3 1 (.slice (some ⟨g, 0, none⟩) n cap) n (ints xs)) {d : Array Nat} (hd : d.toList.map Int.ofNat = xs) (hs : d.size = n) (ho : ∀ x ∈ d.toList, x < n) : Holds (encN n) w g 0 d := by
  intro j hj
  have hc := h.cellAt j (by omega)
  have hx : (ints xs)[j]? = some (.int .i64 (d[j]! : Int)) := by
    rw [← hd, ints_at _ j (by simpa using hj), getElem!_pos d j hj]; simp
  rw [hx] at hc
  have e : encN n d[j]! = .int .i64 (d[j]! : Int) := by
    unfold encN
    rw [Nat.mod_eq_of_lt (ho _ (by rw [getElem!_pos d j hj]; simp))]
  rw [e]
  exact ⟨by simpa using hc, by simpa using h.frozenAt j⟩
theorem eg_less : ∀ args w, (callFunc 33 args).run Tryd.prog w = .ok (.enter 33 args) w := enters_of Tryd.func33 (by kernel_rfl) rfl

theorem less_lays (L : List Ru) (hin : ∀ r ∈ L, r.In) (A : Option Addr) (c oc lb ob blk : Nat) (w : World) (d0 : Array Nat) (hd0 : d0.size = L.length) (hH : Holds (encN L.length) w blk 0 d0) (hblk : blk < w.heap.size) (h0 : 0 < L.length)
    (hl : w.cell? ⟨lb, 0, none⟩ = some (.slice A L.length c)) (ho : w.cell? ⟨ob, 0, none⟩ = some (.slice (some ⟨blk, 0, none⟩) L.length oc)) (hlb : lb ≠ blk) (hob : ob ≠ blk) (hA : At blk w A (rus L)) :
    LessLays L.length 33 #[.pointer (some ⟨lb, 0, none⟩), .pointer (some ⟨ob, 0, none⟩)] (fun x => keyAt L (x % L.length)) blk 0 L.length w := by
  intro m os dk hs i j hi hj
  have S : SW (encN L.length) w blk 0 dk (sortWorld (encN L.length) w blk 0 m dk os) := ⟨m, os, rfl⟩
  obtain ⟨g, o, rfl, hg, hc⟩ := hA (by rw [rus_len]; omega)
  have hV := S.holds hblk hH (hs.trans hd0.symm)
  have hlt : lb < w.heap.size := World.block_lt_of_cell? _ _ hl
  have hot : ob < w.heap.size := World.block_lt_of_cell? _ _ ho
  generalize sortWorld (encN L.length) w blk 0 m dk os = V at *
  have v1 : V.cell? ⟨lb, 0, none⟩ = _ := (sw_cell S hlt hlb 0).trans hl
  have v2 : V.cell? ⟨ob, 0, none⟩ = _ := (sw_cell S hot hob 0).trans ho
  have v3 := (hV i (by omega)).1
  have v4 := (hV j (by omega)).1
  have ha : dk[i]! % L.length < L.length := Nat.mod_lt _ h0
  have hb : dk[j]! % L.length < L.length := Nat.mod_lt _ h0
  have hc' : ∀ j v, (rus L)[j]? = some v → V.cell? ⟨g, o + j, none⟩ = some v := fun j v hj => by
    rw [sw_cell S (Nat.lt_trans hg hblk) (by omega) (o + j)]; exact hc j v hj
  have e1 : lk (fun x => keyAt L (x % L.length)) dk[i]! dk[j]! = decide (keyR L[dk[i]! % L.length] < keyR L[dk[j]! % L.length]) := by
    show decide (keyAt L (dk[i]! % L.length) < keyAt L (dk[j]! % L.length)) = _; rw [keyAt_get ha, keyAt_get hb]
  rw [e1]
  unfold encN at v3 v4
  rw [Nat.zero_add] at v3 v4
  have q := fun j hj v hv => rus_cells hc' ha j v hj hv
  have p := fun j hj v hv => rus_cells hc' hb j v hj hv
  have i1 := (hin _ (List.getElem_mem ha)).2.1
  have i2 := (hin _ (List.getElem_mem hb)).2.1
  exact less_cells L.length blk L.length c oc lb ob g o i j _ _ dk V _ _ i1 i2 hV hi hj ha hb v1 v2 v3 v4
    (q 0 (by omega) _ rfl) (q 1 (by omega) _ rfl) (q 2 (by omega) _ rfl) (q 3 (by omega) _ rfl) (q 4 (by omega) _ rfl) (q 5 (by omega) _ rfl) (q 6 (by omega) _ rfl) (q 7 (by omega) _ rfl) (q 8 (by omega) _ rfl) (q 9 (by omega) _ rfl) (q 10 (by omega) _ rfl) (q 11 (by omega) _ rfl) (q 12 (by omega) _ rfl) (q 13 (by omega) _ rfl)
    (p 0 (by omega) _ rfl) (p 1 (by omega) _ rfl) (p 2 (by omega) _ rfl) (p 3 (by omega) _ rfl) (p 4 (by omega) _ rfl) (p 5 (by omega) _ rfl) (p 6 (by omega) _ rfl) (p 7 (by omega) _ rfl) (p 8 (by omega) _ rfl) (p 9 (by omega) _ rfl) (p 10 (by omega) _ rfl) (p 11 (by omega) _ rfl) (p 12 (by omega) _ rfl) (p 13 (by omega) _ rfl)

/-- What is sorted: the numbers of rules, and nothing else. -/
def Sorted (L : List Ru) (blk : Nat) (w : World) (e : Ending) (w' : World) : Prop := e = .returned (.tuple #[]) ∧ ∃ d, d.size = L.length ∧ d.toList = ordL (keyAt L) L.length ∧ SW (encN L.length) w blk 0 d w'
theorem sorted_any (L : List Ru) (hin : ∀ r ∈ L, r.In) (A : Option Addr) (c oc lb ob blk base : Nat) (w : World) (h256 : L.length ≤ 256)
    (hown : w.ownsRow base 3 1 (.slice (some ⟨blk, 0, none⟩) L.length oc) L.length (ints ((List.range L.length).map Int.ofNat)))
    (hl : w.cell? ⟨lb, 0, none⟩ = some (.slice A L.length c)) (ho : w.cell? ⟨ob, 0, none⟩ = some (.slice (some ⟨blk, 0, none⟩) L.length oc)) (hlb : lb ≠ blk) (hob : ob ≠ blk) (hA : At blk w A (rus L)) :
    Calls Tryd.prog 35 #[.iface 25 (.slice (some ⟨blk, 0, none⟩) L.length oc), .func (.func 33) #[] #[.pointer (some ⟨lb, 0, none⟩), .pointer (some ⟨ob, 0, none⟩)]] w (Sorted L blk w) := by
  have hH : Holds (encN L.length) w blk 0 (List.range L.length).toArray := enc_own hown (by simp) (by simp) (by simp)
  have hblk : blk < w.heap.size := (hown.lt blk rfl).2
  by_cases h2 : 2 ≤ L.length
  · have hless := less_lays L hin A c oc lb ob blk w (List.range L.length).toArray (by simp) hH hblk (by omega) hl ho hlb hob hA
    have q := sorts_any (W := w) (g := 33) (blk := blk) (off := 0) (d := (List.range L.length).toArray) eg_less (by simpa using hless) hH hblk (by simpa using h2) (by simp; omega) (fun q hq => by rw [getElem!_pos _ q hq]; simp) oc
    rw [show (List.range L.length).toArray.size = L.length by simp] at q
    refine q.mono ?_
    rintro e w' ⟨rfl, d', hs, hok, hsw⟩
    exact ⟨rfl, d', hs, by rw [ordL_eq hok hs]; exact ordL_congr fun x hx => by rw [Nat.mod_eq_of_lt hx], hsw⟩
  · have h01 : L.length = 0 ∨ L.length = 1 := by omega
    have hq : ∀ (e : Ending) (w' : World), (e = .returned (.tuple #[]) ∧ ∃ os, w' = grow w os) → Sorted L blk w e w' := by
      rintro e w' ⟨rfl, os, rfl⟩
      refine ⟨rfl, (List.range L.length).toArray, by simp, ?_, 0, os, ?_⟩
      · rcases h01 with h | h <;> rw [h]
        · rw [ordL_zero]; rfl
        · rw [ordL_one]; rfl
      · unfold sortWorld
        rw [put_same hH]; rfl
    have T := fun f hf => (Any.sort_SliceStable_tiny Tryd.sl8 25 3 siT siE (by kernel_rfl) (by kernel_rfl) (by kernel_rfl) (by kernel_rfl) 2 (fun _ => by kernel_rfl) (some ⟨blk, 0, none⟩) L.length oc (by omega)
        f hf (.func 33) #[] #[.pointer (some ⟨lb, 0, none⟩), .pointer (some ⟨ob, 0, none⟩)] w).mono hq
    rcases h01 with h | h
    · exact T 59 (by rw [h]; kernel_rfl)
    · exact T 60 (by rw [h]; kernel_rfl)
end Go.Proofs.YtoiondgcjbdonaaDoor
