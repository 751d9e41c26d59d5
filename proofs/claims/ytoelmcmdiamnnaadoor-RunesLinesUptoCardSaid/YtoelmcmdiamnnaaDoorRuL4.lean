/- Layer 3: all lines: plain facts; strings.Split; rows of texts. -/
import Derived.Test.YtoelmcmdiamnnaaDoorRuL3
import Derived.Test.YtoelmcmdiamnnaaDoorRuK
import Derived.Shelf.Strings.SplitShaped
namespace Go.Proofs.YtoelmcmdiamnnaaDoor
set_option linter.unusedVariables false
set_option linter.unusedSimpArgs false
set_option maxRecDepth 100000
open Go.RowKit Go.Shelf Go.Lib

def Tryd.laysSplit_ren : Go.Shelf.Ren := ⟨fun | 146 => 49 | 221 => 64 | 268 => 71 | 138 => 72 | 143 => 73 | 195 => 75 | 197 => 43 | 218 => 76 | 219 => 77 | 260 => 61 | 217 => 56 | 225 => 80 | 224 => 81 | 267 => 82 | 266 => 68 | 314 => 83 | n => n, fun | 9 => 9 | 31 => 31 | 3 => 3 | 4 => 4 | 0 => 0 | 105 => 54 | 21 => 21 | 5 => 5 | 46 => 80 | 119 => 76 | 139 => 79 | 138 => 78 | 146 => 110 | 51 => 92 | n => n, fun | 1 => 5 | 3 => 0 | 4 => 1 | n => n⟩
theorem Tryd.laysSplit : Go.Proofs.LaysM.n146 Tryd.prog Tryd.laysSplit_ren := {
  mixed := by kernel_rfl
  f138 := Tryd.func72.trans (congrArg some (by kernel_rfl))
  f143 := Tryd.func73.trans (congrArg some (by kernel_rfl))
  f146 := Tryd.func49.trans (congrArg some (by kernel_rfl))
  f195 := Tryd.func75.trans (congrArg some (by kernel_rfl))
  f197 := Tryd.func43.trans (congrArg some (by kernel_rfl))
  f217 := Tryd.func56.trans (congrArg some (by kernel_rfl))
  f218 := Tryd.func76.trans (congrArg some (by kernel_rfl))
  f219 := Tryd.func77.trans (congrArg some (by kernel_rfl))
  f221 := Tryd.func64.trans (congrArg some (by kernel_rfl))
  f224 := Tryd.func81.trans (congrArg some (by kernel_rfl))
  f225 := Tryd.func80.trans (congrArg some (by kernel_rfl))
  f260 := Tryd.func61.trans (congrArg some (by kernel_rfl))
  f266 := Tryd.func68.trans (congrArg some (by kernel_rfl))
  f267 := Tryd.func82.trans (congrArg some (by kernel_rfl))
  f268 := Tryd.func71.trans (congrArg some (by kernel_rfl))
  f314 := Tryd.func83.trans (congrArg some (by kernel_rfl))
  t0 := Tryd.underlying0
  a0 := Tryd.isAgg0
  z0 := Tryd.sizeOf0
  v0 := Tryd.zeroValue0
  t3 := Tryd.underlying3
  a3 := Tryd.isAgg3
  z3 := Tryd.sizeOf3
  v3 := Tryd.zeroValue3
  t4 := Tryd.underlying4
  a4 := Tryd.isAgg4
  z4 := Tryd.sizeOf4
  v4 := Tryd.zeroValue4
  t5 := Tryd.underlying5
  a5 := Tryd.isAgg5
  z5 := Tryd.sizeOf5
  v5 := Tryd.zeroValue5
  t9 := Tryd.underlying9
  a9 := Tryd.isAgg9
  z9 := Tryd.sizeOf9
  v9 := Tryd.zeroValue9
  t21 := Tryd.underlying21
  a21 := Tryd.isAgg21
  z21 := Tryd.sizeOf21
  v21 := Tryd.zeroValue21
  t31 := Tryd.underlying31
  a31 := Tryd.isAgg31
  z31 := Tryd.sizeOf31
  v31 := Tryd.zeroValue31
  t46 := Tryd.underlying80
  a46 := Tryd.isAgg80
  z46 := Tryd.sizeOf80
  v46 := Tryd.zeroValue80
  t51 := Tryd.underlying92
  a51 := Tryd.isAgg92
  z51 := Tryd.sizeOf92
  v51 := Tryd.zeroValue92
  t105 := Tryd.underlying54
  a105 := Tryd.isAgg54
  z105 := Tryd.sizeOf54
  v105 := Tryd.zeroValue54
  t119 := Tryd.underlying76
  a119 := Tryd.isAgg76
  z119 := Tryd.sizeOf76
  t138 := Tryd.underlying78
  a138 := Tryd.isAgg78
  z138 := Tryd.sizeOf78
  v138 := Tryd.zeroValue78
  t139 := Tryd.underlying79
  a139 := Tryd.isAgg79
  z139 := Tryd.sizeOf79
  v139 := Tryd.zeroValue79
  t146 := Tryd.underlying110
  a146 := Tryd.isAgg110
  z146 := Tryd.sizeOf110
  v146 := Tryd.zeroValue110
  g1 := by kernel_rfl
  g3 := by kernel_rfl
  g4 := by kernel_rfl
  i0 := by kernel_rfl
  i3 := by kernel_rfl
  i4 := by kernel_rfl
  i5 := by kernel_rfl
  i9 := by kernel_rfl
  i21 := by kernel_rfl
  i31 := by kernel_rfl
  i46 := by kernel_rfl
  i51 := by kernel_rfl
  i105 := by kernel_rfl
  i138 := by kernel_rfl
  i139 := by kernel_rfl
  i146 := by kernel_rfl
  m1 := by kernel_rfl
  s1_3 := fun w h => Go.Proofs.cell_of_shapedOpen_int (zero := #[.int .i64 0]) (t := 3) h (of_decide_eq_true (by kernel_rfl)) (by kernel_rfl) rfl (by kernel_rfl) (by kernel_rfl) Tryd.underlying3
  m3 := by kernel_rfl
  m4 := by kernel_rfl }
def TabsL (w : World) : Prop := Tabs w ∧ ∃ m, w.cell? ⟨Tryd.laysSplit_ren.g 1, 0, none⟩ = some (.int .i64 m)
theorem tabsL_on {w w' : World} (h : TabsL w) (hb : Below w.heap.size w w') : TabsL w' := by
  refine ⟨tabs_on h.1 hb, ?_⟩
  obtain ⟨m, hm⟩ := h.2
  refine ⟨m, ?_⟩
  rw [hb.cell (p := ⟨Tryd.laysSplit_ren.g 1, 0, none⟩) (World.block_lt_of_cell? _ _ hm)]
  exact hm
def splB (s : ByteArray) : List ByteArray := Lib.splitB { data := #[10] } 0 (Lib.countB s { data := #[10] }) s
theorem splB_data (s : ByteArray) : (splB s).map (·.data.toList) = spl s.data.toList := by
  unfold splB
  rw [Lib.splitB_data]
  exact split_spl _ _ (Nat.le_refl _)
theorem splB_len (s : ByteArray) : (splB s).length = Lib.countB s { data := #[10] } + 1 := Lib.splitB_all { data := #[10] } (by decide) 0 _ s rfl
theorem strs_spl (s : ByteArray) : (splB s).map Value.string = strs (spl s.data.toList) := by
  rw [← splB_data]
  unfold strs
  rw [List.map_map]
  apply List.map_congr_left
  intro x _
  show Value.string x = Value.string ⟨x.data.toList.toArray⟩
  rw [← ba_eq]
theorem spl_len (s : ByteArray) : (spl s.data.toList).length = Lib.countB s { data := #[10] } + 1 := by
  rw [← splB_data, List.length_map, splB_len]
theorem split_any (s : ByteArray) (w : World) (hT : TabsL w) (hs : s.size ≤ 4000000) :
    Calls Tryd.prog 49 #[.string s, .string { data := #[10] }] w fun e w' => e = .returned (.slice (some ⟨w.heap.size, 0, none⟩) (spl s.data.toList).length (spl s.data.toList).length) ∧ w.alloc (.cells (strs (spl s.data.toList)).toArray 9) = w' := by
  obtain ⟨m, hm⟩ := hT.2
  refine (Any.strings_Split { Tryd.laysSplit with } Tryd.laysSplit.i9 s { data := #[10] } m w (by omega) hm (by decide)).mono ?_
  rintro e w' ⟨rfl, rfl⟩
  refine ⟨by rw [spl_len], ?_⟩
  rw [← strs_spl]
  rfl

/-! ### how long paragraphs and lines are -/
theorem spl_sum : ∀ l : By, ((spl l).map fun p => p.length + 1).sum = l.length + 1
  | [] => rfl
  | b :: t => by
    have ih := spl_sum t
    rw [spl_cons]
    split
    · simp only [List.map_cons, List.sum_cons, List.length_nil, List.length_cons, ih]
      omega
    · cases h : spl t with
      | nil => exact absurd h (spl_ne t)
      | cons p ps =>
        rw [h] at ih
        simp only [List.map_cons, List.sum_cons, List.length_cons] at ih ⊢
        omega
theorem mem_le_sum {L : List By} {p : By} (h : p ∈ L) : p.length + 1 ≤ (L.map fun p => p.length + 1).sum := by
  induction L with
  | nil => cases h
  | cons a t ih =>
    simp only [List.map_cons, List.sum_cons]
    rcases List.mem_cons.1 h with rfl | h
    · omega
    · have := ih h
      omega
theorem parF_sum (c : Int) : ∀ (f : Nat) (s : By), s.length ≤ f → ((parF c f s).map (·.length)).sum = s.length ∧ (parF c f s).length ≤ s.length
  | 0, [], _ => ⟨rfl, Nat.le_refl _⟩
  | 0, b :: t, h => absurd h (by simp)
  | f + 1, [], _ => ⟨rfl, Nat.le_refl _⟩
  | f + 1, b :: t, h => by
    have hc := cutAt_bounds c (s := b :: t) (by simp)
    have ih := parF_sum c f ((b :: t).drop (cutAt c (b :: t))) (by rw [List.length_drop]; omega)
    rw [List.length_drop] at ih
    unfold parF
    simp only [List.map_cons, List.sum_cons, List.length_take]
    refine ⟨by rw [ih.1]; omega, ?_⟩
    rw [List.length_cons]
    omega
theorem parE_sum (c : Int) (s : By) : ((parE c s).map (·.length)).sum = s.length ∧ (parE c s).length ≤ s.length + 1 := by
  unfold parE
  split
  · simp
  · split
    · rename_i h
      rw [h]
      simp
    · have := parF_sum c s.length s (Nat.le_refl _)
      unfold parB
      exact ⟨this.1, by omega⟩
theorem mem_len_sum {L : List By} {p : By} (h : p ∈ L) : p.length ≤ (L.map (·.length)).sum := by
  induction L with
  | nil => cases h
  | cons a t ih =>
    simp only [List.map_cons, List.sum_cons]
    rcases List.mem_cons.1 h with rfl | h
    · omega
    · have := ih h
      omega
theorem line_len {c : Int} {s l : By} (h : l ∈ linesE c s) : l.length ≤ s.length := by
  unfold linesE at h
  obtain ⟨p, hp, hl⟩ := List.mem_flatMap.1 h
  have h1 := mem_le_sum hp
  have h2 := mem_len_sum hl
  rw [spl_sum] at h1
  rw [(parE_sum c p).1] at h2
  omega
theorem flat_len (c : Int) : ∀ L : List By, (L.flatMap (parE c)).length ≤ (L.map fun p => p.length + 1).sum
  | [] => Nat.le_refl _
  | p :: L => by
    have h1 := (parE_sum c p).2
    have h2 := flat_len c L
    simp only [List.flatMap_cons, List.length_append, List.map_cons, List.sum_cons]
    omega
theorem take_len (c : Int) (L : List By) (k : Nat) : ((L.take k).flatMap (parE c)).length ≤ (L.map fun p => p.length + 1).sum := by
  have h1 := flat_len c (L.take k)
  have h2 : ((L.take k).map fun p => p.length + 1).sum ≤ (L.map fun p => p.length + 1).sum := by
    have : L = L.take k ++ L.drop k := (List.take_append_drop k L).symm
    rw [show (L.map fun p => p.length + 1).sum = (((L.take k ++ L.drop k)).map fun p => p.length + 1).sum by rw [← this]]
    rw [List.map_append, List.sum_append]
    omega
  omega
section
variable {ops : Array Oper} {rest : List Oper} {o : Oper} {a : Act} {Q : Exit → Act → World → Prop} {w : World}
theorem append_strs (hgd : o.guard = none) (s x : Operand) (ho : o.op = .call { callee := .builtin .append, args := #[s, x], argTypes := #[31, 31] }) (base : Nat) (v : Value) (L M : List By) (n m : Nat) (hn : L.length = n) (hm : M.length = m) (A : Option Addr) (cc B : Nat) (hm0 : 0 < m)
    (hs : a.eval s = v) (hx : a.eval x = .slice A m cc) (hown : w.ownsRow base 9 1 v n (strs L)) (hA : At B w A (strs M)) (hbase : base ≤ w.heap.size) (hsm : n + m ≤ 9000000)
    (h : ∀ v' w', w'.ownsRow base 9 1 v' (n + m) (strs (L ++ M)) → w.grownBy w' v.ownBlock → v' ≠ .slice none 0 0 → wpList Tryd.prog ops Q rest (a.put o.dst v') w') : wpList Tryd.prog ops Q (o :: rest) a w := by
  obtain ⟨i0, hi, hz0, hz1, hz2⟩ := info_parts info_string
  obtain ⟨g, o', rfl, hg, hc⟩ := hA (by rw [strs_len]; omega)
  refine wpList_append_own w hgd s x 31 ho base 9 i0 _ 1 16 Tryd.underlying31 hi hz0 hz1 hz2 rfl (by decide) v n (strs L) hs hown ⟨g, o', none⟩ m cc (strs M) hx (by rw [strs_len]; omega) (fun j u hj => ?_) (strs_one _) (by unfold maxLen; omega) (by omega) hbase (fun v' w' h4 h5 h6 => ?_)
  · rw [show (⟨g, o', none⟩ : Addr).add j = ⟨g, o' + j, none⟩ by unfold Addr.add; split <;> simp_all]
    exact hc j u hj
  · refine h v' w' (by rw [strs_append]; exact h4) h5 (fun e => ?_)
    have := (h6.1 e).2
    omega
end
end Go.Proofs.YtoelmcmdiamnnaaDoor
