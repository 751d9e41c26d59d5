/- Layer 3: the reference's paragraph. -/
import Derived.Test.YtoelmcmdiamnnaaDoorRuL1
namespace Go.Proofs.YtoelmcmdiamnnaaDoor
set_option linter.unusedVariables false
set_option linter.unusedSimpArgs false
set_option maxRecDepth 100000
open Go.RowKit Go.Lib

def strs (L : List By) : List Value := L.map fun l => .string ⟨l.toArray⟩
theorem strs_len (L : List By) : (strs L).length = L.length := by simp [strs]
theorem strs_append (L M : List By) : strs (L ++ M) = strs L ++ strs M := by simp [strs]
theorem strs_at (L : List By) (k : Nat) (h : k < L.length) : (strs L)[k]? = some (.string ⟨L[k].toArray⟩) := by simp [strs, h]
theorem strs_one (L : List By) : ∀ v ∈ strs L, v.oneCell' = true := by
  intro v h
  simp only [strs, List.mem_map] at h
  obtain ⟨l, _, rfl⟩ := h
  rfl
theorem At.st {B : Nat} {w : World} {A : Option Addr} {L : List By} (h : At B w A (strs L)) {k : Nat} (hk : k < L.length) : ∃ g o, A = some ⟨g, o, none⟩ ∧ g < B ∧ w.cell? ⟨g, o + k, none⟩ = some (.string ⟨L[k].toArray⟩) := by
  obtain ⟨g, o, hA, hg, hc⟩ := h (by rw [strs_len]; omega)
  exact ⟨g, o, hA, hg, hc _ _ (strs_at L k hk)⟩
theorem info_string : (Tryd.prog.info? 9).map (fun i => (i.zero, i.size, i.bytes)) = some (some (.string ByteArray.empty), 1, 16) := by kernel_rfl
section
variable {ops : Array Oper} {rest : List Oper} {o : Oper} {a : Act} {Q : Exit → Act → World → Prop} {w : World}
theorem append_str (hgd : o.guard = none) (s x : Operand) (ho : o.op = .call { callee := .builtin .append, args := #[s, x], argTypes := #[31, 31] }) (base : Nat) (v : Value) (L : List By) (n : Nat) (hn : L.length = n) (g : Nat) (b : ByteArray) (l : By) (hb : b = ⟨l.toArray⟩)
    (hs : a.eval s = v) (hx : a.eval x = .slice (some ⟨g, 0, none⟩) 1 1) (hown : w.ownsRow base 9 1 v n (strs L)) (hg : w.heap[g]? = some (.cells #[.string b] 9 (0, 0))) (hapart : v.ownBlock ≠ some g) (hbase : base ≤ w.heap.size) (hsm : n ≤ 8000000)
    (h : ∀ v' w', w'.ownsRow base 9 1 v' (n + 1) (strs (L ++ [l])) → w.grownBy w' v.ownBlock → v' ≠ .slice none 0 0 → wpList Tryd.prog ops Q rest (a.put o.dst v') w') : wpList Tryd.prog ops Q (o :: rest) a w := by
  obtain ⟨i0, hi, hz0, hz1, hz2⟩ := info_parts info_string
  refine append_one Tryd.underlying31 hi hz0 hz1 hz2 rfl (by decide) (by decide) hgd s x ho base v n (strs L) g #[.string b] 9 hs hx hown hg rfl (by simp [Value.oneCell']) hapart hbase (fun hh => by omega) (fun v' w' h1 h2 h3 => h v' w' ?_ h2 h3)
  rw [strs_append, show strs [l] = (#[.string b] : Array Value).toList by rw [hb]; rfl]
  exact h1
end
theorem ba_eq (s : ByteArray) : s = ⟨s.data.toList.toArray⟩ := by
  cases s
  simp
theorem empty_str {s : ByteArray} (h : s.size = 0) : s = { data := #[] } := by
  cases s with
  | mk d =>
    congr 1
    exact Array.eq_empty_of_size_eq_zero h
theorem toList_ne {s : ByteArray} (h : 0 < s.size) : ¬ (s.toList = []) := by
  rw [Lib.toList_data]
  intro e
  have h1 : s.data.toList.length = 0 := by rw [e]; rfl
  rw [show s.data.toList.length = s.size by simp] at h1
  omega
theorem isEmpty_no {s : ByteArray} (h : 0 < s.size) : s.toList.isEmpty = false := by
  rw [List.isEmpty_eq_false_iff]
  exact toList_ne h
theorem drop_bytes (s : ByteArray) (n : Nat) : (s.extract n s.size).data.toList = s.data.toList.drop n := by
  simp only [ByteArray.data_extract, Array.toList_extract]
  rw [List.extract_eq_take_drop]
  rw [List.take_of_length_le (by simp)]
theorem take_bytes (s : ByteArray) (n : Nat) : (s.extract 0 n).data.toList = s.data.toList.take n := by
  simp only [ByteArray.data_extract, Array.toList_extract]
  rw [List.extract_eq_take_drop]
  simp
set_option maxHeartbeats 4000000
set_option maxRecDepth 100000
/-- What a paragraph's lines are handed back as. -/
def ParP (R : List By) (w : World) : Ending → World → Prop := fun e w' => ∃ A cc, e = .returned (.slice A R.length cc) ∧ w'.ownsRow w.heap.size 9 1 (.slice A R.length cc) R.length (strs R) ∧ Below w.heap.size w w'
theorem par_one (s : ByteArray) (c : Int) (hc : c < 1 ∨ s.size = 0) (w : World) :
    Calls Tryd.prog 51 #[.string s, .int .i64 c] w (ParP [s.data.toList] w) := by
  rcases Nat.eq_zero_or_pos s.size with hz | hz
  · have hs := empty_str hz
    subst hs
    by_cases h1 : 1 ≤ c
    · go_enter Tryd.func51, Tryd.ntmps51
      go_wp2
      refine wp_loop_rounds 1 ?_
      rw [rounds_succ]
      go_wp2_with (at_builtin; refine append_str rfl _ _ rfl w.heap.size (.slice none 0 0) [] 0 rfl w.heap.size { data := #[] } [] rfl rfl rfl (World.ownsRow_nil _ _ _ _) (heap_alloc_new _ _) (by simp [Value.ownBlock]) (by simp) (by omega) (fun v' w3 h1 h2 h3 => ?_))
      obtain ⟨A, cc, rfl⟩ := own_shape h1
      have HB := hid (((Below.refl w.heap.size w).alloc (Nat.le_refl _) _).grown h2 (by simp) (fun k hk => by simp [Value.ownBlock] at hk))
      have HO := hid h1
      clear h1 h2 h3
      go_wp2
      go_ret
      exact ⟨A, cc, rfl, HO.out, HB.out⟩
    · have hcf : decide (1 ≤ c) = false := decide_eq_false h1
      go_enter Tryd.func51, Tryd.ntmps51
      go_wp2
      refine wp_loop_rounds 1 ?_
      rw [rounds_succ]
      go_wp2_with (at_builtin; refine append_str rfl _ _ rfl w.heap.size (.slice none 0 0) [] 0 rfl w.heap.size { data := #[] } [] rfl rfl rfl (World.ownsRow_nil _ _ _ _) (heap_alloc_new _ _) (by simp [Value.ownBlock]) (by simp) (by omega) (fun v' w3 h1 h2 h3 => ?_))
      obtain ⟨A, cc, rfl⟩ := own_shape h1
      have HB := hid (((Below.refl w.heap.size w).alloc (Nat.le_refl _) _).grown h2 (by simp) (fun k hk => by simp [Value.ownBlock] at hk))
      have HO := hid h1
      clear h1 h2 h3
      go_wp2
      go_ret
      exact ⟨A, cc, rfl, HO.out, HB.out⟩
  · have h1 : ¬ (1 ≤ c) := by omega
    have hcf : decide (1 ≤ c) = false := decide_eq_false h1
    have hE1 := toList_ne hz
    have hE2 := isEmpty_no hz
    go_enter Tryd.func51, Tryd.ntmps51
    go_wp2
    refine wp_loop_rounds 1 ?_
    rw [rounds_succ]
    go_wp2_with (at_builtin; refine append_str rfl _ _ rfl w.heap.size (.slice none 0 0) [] 0 rfl w.heap.size s s.data.toList (ba_eq s) rfl rfl (World.ownsRow_nil _ _ _ _) (heap_alloc_new _ _) (by simp [Value.ownBlock]) (by simp) (by omega) (fun v' w3 h1 h2 h3 => ?_))
    obtain ⟨A, cc, rfl⟩ := own_shape h1
    have HB := hid (((Below.refl w.heap.size w).alloc (Nat.le_refl _) _).grown h2 (by simp) (fun k hk => by simp [Value.ownBlock] at hk))
    have HO := hid h1
    clear h1 h2 h3
    go_wp2
    go_ret
    exact ⟨A, cc, rfl, HO.out, HB.out⟩
theorem paragraph_any (s : ByteArray) (c : Int) (w : World) (hs : s.size ≤ 4000000) :
    Calls Tryd.prog 51 #[.string s, .int .i64 c] w (ParP (parE c s.data.toList) w) := by
  have hl2 : s.data.toList.length = s.size := by simp
  by_cases hc : c < 1
  · have he : parE c s.data.toList = [s.data.toList] := by unfold parE; rw [if_pos hc]
    rw [he]
    exact par_one s c (.inl hc) w
  rcases Nat.eq_zero_or_pos s.size with hz | hz
  · have he : parE c s.data.toList = [s.data.toList] := by
      unfold parE
      have : s.data.toList = [] := List.eq_nil_of_length_eq_zero (by omega)
      rw [if_neg hc, this]
      rfl
    rw [he]
    exact par_one s c (.inr hz) w
  have hne : s.data.toList ≠ [] := fun h => by rw [h] at hl2; simp at hl2; omega
  have he : parE c s.data.toList = parB c s.data.toList := by unfold parE; rw [if_neg hc, if_neg hne]
  rw [he]
  have h1 : 1 ≤ c := by omega
  generalize hR : parB c s.data.toList = R at *
  have HR := hid hR
  clear hR he hne hc
  go_enter Tryd.func51, Tryd.ntmps51
  go_wp2
  go_loopg [0, 5] s.size (fun gh v0 v5 wr => ∃ (rest : ByteArray) (L : List By) (n : Nat) (A : Option Addr) (cc : Nat), v0 = .string rest ∧ v5 = .slice A n cc ∧ L.length = n ∧ 0 < rest.size ∧ rest.size ≤ gh ∧ n + rest.size ≤ s.size ∧ Hid (L ++ parB c rest.data.toList = R) ∧ Hid (Below w.heap.size w wr ∧ wr.ownsRow w.heap.size 9 1 (.slice A n cc) n (strs L)))
  case atStart => exact ⟨s, [], 0, none, 0, rfl, rfl, rfl, hz, by omega, by omega, HR, hid ⟨Below.refl _ _, World.ownsRow_nil _ _ _ _⟩⟩
  case round =>
    obtain ⟨rest, L, n, A, cc, rfl, rfl, hn, hrz, hgh, hns, HL, HO⟩ := hrel
    have hE1 := toList_ne hrz
    have hE2 := isEmpty_no hrz
    have hrl : rest.data.toList.length = rest.size := by simp
    have hrne : rest.data.toList ≠ [] := fun h => by rw [h] at hrl; simp at hrl; omega
    have hcb := cutAt_bounds c hrne
    have C := rline_any rest c h1 hrz wr (by omega)
    have hsr := HO.out.1.size
    have hcons := parB_cons c hrne
    have hlast := fun h => parB_last c hrne h
    rw [hrl] at hcb hlast
    generalize hk : cutAt c rest.data.toList = k at *
    have HCO := hid hcons
    have HLA := hid hlast
    have HN := hid hn
    clear hcons hlast hk hrne hrl hn
    by_cases hkl : k = rest.size
    · have hres : L ++ [rest.data.toList] = R := by rw [← HLA.out hkl, HL.out]
      have HRE := hid hres
      have hki : (k : Int) = (rest.size : Int) := by omega
      subst hkl
      clear hres HLA HCO
      go_wp2_with fail
      refine C.mono ?_
      rintro e w2 ⟨rfl, hb2⟩
      have hs2 := hb2.size
      have HO2 := hid (And.intro (HO.out.1.trans (hb2.mono hsr)) (own_below' HO.out.2 hb2))
      clear hb2 HO
      go_wp2_with (at_builtin; refine append_str rfl _ _ rfl w.heap.size (.slice A n cc) L n HN.out w2.heap.size rest rest.data.toList (ba_eq rest) rfl rfl (own_below' HO2.out.2 ((Below.refl _ _).alloc (Nat.le_refl _) _)) (heap_alloc_new _ _) (fun e => by have := own_lt HO2.out.2 (Nat.le_refl _) _ e; omega) (by simp; omega) (by omega) (fun v' w3 k1 k2 k3 => ?_))
      obtain ⟨A', cc', rfl⟩ := own_shape k1
      have HB := hid ((HO2.out.1.alloc (by omega) _).grown k2 (by simp; omega) (fun k hk => own_ge HO2.out.2 k hk))
      have hRL : R.length = n + 1 := by rw [← HRE.out, List.length_append, HN.out]; rfl
      rw [HRE.out] at k1
      have HOO := hid k1
      have HRL := hid hRL
      clear k1 k2 k3 hRL
      go_wp2
      go_ret
      exact ⟨A', cc', by rw [HRL.out]; rfl, by rw [HRL.out]; exact HOO.out, HB.out⟩
    · have hki : ¬ ((k : Int) = (rest.size : Int)) := by omega
      have hkr : (k : Int) ≤ (rest.size : Int) := by omega
      have hex : (rest.extract k rest.size).size = rest.size - k := by rw [ByteArray.size_extract]; omega
      have hres : (L ++ [(rest.extract 0 k).data.toList]) ++ parB c (rest.extract k rest.size).data.toList = R := by
        rw [take_bytes, drop_bytes, ← HL.out, HCO.out, List.append_assoc]
        rfl
      have HRE := hid hres
      have HEX := hid hex
      clear hres HLA HCO hex
      go_wp2_with fail
      refine C.mono ?_
      rintro e w2 ⟨rfl, hb2⟩
      have hs2 := hb2.size
      have HO2 := hid (And.intro (HO.out.1.trans (hb2.mono hsr)) (own_below' HO.out.2 hb2))
      clear hb2 HO
      go_wp2_with (
        at_builtin
        refine append_str rfl _ _ rfl w.heap.size (.slice A n cc) L n HN.out w2.heap.size (rest.extract 0 k) (rest.extract 0 k).data.toList (ba_eq _) rfl rfl (own_below' HO2.out.2 ((Below.refl _ _).alloc (Nat.le_refl _) _)) (heap_alloc_new _ _) (fun e => by have := own_lt HO2.out.2 (Nat.le_refl _) _ e; omega) (by simp; omega) (by omega) (fun v' w3 k1 k2 k3 => ?_)
        obtain ⟨A', cc', rfl⟩ := own_shape k1
        have HB := hid ((HO2.out.1.alloc (by omega) _).grown k2 (by simp; omega) (fun k hk => own_ge HO2.out.2 k hk))
        have HOO := hid k1
        clear k1 k2 k3)
      go_roundg (rest.size - k)
      case measure => omega
      case rel => exact ⟨rest.extract k rest.size, L ++ [(rest.extract 0 k).data.toList], n + 1, A', cc', rfl, rfl, by rw [List.length_append, HN.out]; rfl, by rw [HEX.out]; omega, by rw [HEX.out]; omega, by rw [HEX.out]; omega, HRE, hid ⟨HB.out, HOO.out⟩⟩
end Go.Proofs.YtoelmcmdiamnnaaDoor
