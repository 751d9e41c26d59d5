/- Layer 3: all lines of a text and the widest one, program and reference. -/
import Derived.Test.YtoelmcmdiamnnaaDoorRuL4
import Derived.Test.YtoelmcmdiamnnaaDoorRuI2
import Derived.Test.YtoelmcmdiamnnaaDoorRuF
namespace Go.Proofs.YtoelmcmdiamnnaaDoor
set_option linter.unusedVariables false
set_option linter.unusedSimpArgs false
set_option maxRecDepth 100000
open Go.RowKit Go.Lib

/-- What Lines hands back. -/
def LinP (R : List By) (w : World) : Ending → World → Prop := fun e w' => ∃ A cc, e = .returned (.tuple #[.slice A R.length cc, .int .i64 (widest R : Int)]) ∧ w'.ownsRow w.heap.size 9 1 (.slice A R.length cc) R.length (strs R) ∧ Below w.heap.size w w'
theorem widest_take (R : List By) {k : Nat} (hk : k < R.length) : widest (R.take (k + 1)) = max (widest (R.take k)) (cellsL R[k]) := by
  rw [List.take_succ_eq_append_getElem hk, widest_snoc]
theorem flat_take (c : Int) (L : List By) {k : Nat} (hk : k < L.length) : (L.take (k + 1)).flatMap (parE c) = (L.take k).flatMap (parE c) ++ parE c L[k] := by
  rw [List.take_succ_eq_append_getElem hk, List.flatMap_append]
  simp
theorem mk_size (p : By) : (ByteArray.mk p.toArray).size = p.length := by
  show p.toArray.size = _
  simp
theorem cells_le (l : By) : cellsL l ≤ 2 * l.length := by
  have := total_le (pcs l)
  have h2 := pcs_len l
  unfold cellsL
  omega
set_option maxHeartbeats 4000000
set_option maxRecDepth 100000
theorem Lines_any (s : ByteArray) (c : Int) (w : World) (hT : TabsL w) (hs : s.size ≤ 4000000) :
    Calls Tryd.prog 20 #[.string s, .int .i64 c] w (LinP (linesE c s.data.toList) w) := by
  have hl2 : s.data.toList.length = s.size := by simp
  have CS := split_any s w hT hs
  have hlin := fun l (h : l ∈ linesE c s.data.toList) => line_len h
  have hsum := spl_sum s.data.toList
  have hmem := fun p (h : p ∈ spl s.data.toList) => mem_le_sum h
  have htl := fun k => take_len c (spl s.data.toList) k
  have hR : linesE c s.data.toList = (spl s.data.toList).flatMap (parE c) := rfl
  rw [hl2] at hsum hlin
  rw [hsum] at htl hmem
  have hspn : (spl s.data.toList).length ≤ s.size + 1 := by
    have : ∀ L : List By, L.length ≤ (L.map fun p => p.length + 1).sum := by
      intro L
      induction L with
      | nil => exact Nat.le_refl _
      | cons a t ih => simp only [List.length_cons, List.map_cons, List.sum_cons]; omega
    exact Nat.le_trans (this _) (Nat.le_of_eq hsum)
  clear hsum hl2
  generalize linesE c s.data.toList = R at *
  generalize spl s.data.toList = SP at *
  have CL := fun (k : Nat) (hk : k < SP.length) (w : World) => lines_any ⟨(SP[k]'hk).toArray⟩ c w (by have := hmem _ (List.getElem_mem hk); rw [mk_size]; omega)
  have HT := hid htl
  have HLN := hid hlin
  have HR := hid hR
  clear htl hlin hR hmem hT
  go_enter Tryd.func20, Tryd.ntmps20
  go_wp2_with fail
  refine CS.mono ?_
  rintro e w1 ⟨rfl, hw1⟩
  have hA0 : At w1.heap.size w1 (some ⟨w.heap.size, 0, none⟩) (strs SP) := by rw [← hw1]; exact At.blk (heap_alloc_new _ _) rfl
  have hB0 : Below w.heap.size w w1 := by rw [← hw1]; exact (Below.refl _ _).alloc (Nat.le_refl _) _
  have HA0 := hid hA0
  have HB0 := hid hB0
  have hs1 := hB0.size
  clear hA0 hB0 hw1 CS
  generalize hX : (some ⟨w.heap.size, 0, none⟩ : Option Addr) = X at *
  go_wp2
  go_loopg [6, 15] SP.length (fun gh v6 v15 wr => ∃ (k : Nat) (L : List By) (n : Nat) (A : Option Addr) (cc : Nat), v6 = .slice A n cc ∧ v15 = .int .i64 k ∧ L.length = n ∧ k ≤ SP.length ∧ SP.length - k ≤ gh ∧ n ≤ 4000001 ∧ Hid (L = (SP.take k).flatMap (parE c)) ∧ Hid (Below w1.heap.size w1 wr ∧ wr.ownsRow w1.heap.size 9 1 (.slice A n cc) n (strs L)))
  case atStart => exact ⟨0, [], 0, none, 0, rfl, rfl, rfl, by omega, by omega, by omega, hid rfl, hid ⟨Below.refl _ _, World.ownsRow_nil _ _ _ _⟩⟩
  case round =>
    obtain ⟨k, L, n, A, cc, rfl, rfl, hn, hk, hgh, hn4, HL, HO⟩ := hrel
    have hsr := HO.out.1.size
    by_cases hlt : k < SP.length
    · have hli : (k : Int) < (SP.length : Int) := by omega
      obtain ⟨g, o, rfl, hg, c0⟩ := (HA0.out.below HO.out.1).st hlt
      have C := CL k hlt wr
      have hst := flat_take c SP hlt
      have htk := HT.out (k + 1)
      obtain ⟨p, hp⟩ : ∃ p, SP[k]'hlt = p := ⟨_, rfl⟩
      rw [hp] at c0 C hst
      have hpn := parE_ne c p
      obtain ⟨M, hM⟩ : ∃ M, parE c p = M := ⟨_, rfl⟩
      rw [hM] at C hst hpn
      rw [hst, ← HL.out, List.length_append, hn] at htk
      have hm0 : 0 < M.length := List.length_pos_iff.2 hpn
      rw [← HL.out] at hst
      have HST := hid hst
      have HN := hid hn
      have hmm : M.length ≤ 4000001 := by omega
      have hnm : n + M.length ≤ 4000001 := by omega
      have hgr : g < wr.heap.size := by omega
      clear hst hp hpn hM htk hn CL
      go_wp2_with fail
      refine C.mono ?_
      rintro e w2 ⟨A2, cc2, rfl, hown2, hb2⟩
      have hs2 := hb2.size
      have HO2 := hid (And.intro (HO.out.1.trans (hb2.mono hsr)) (own_below' HO.out.2 hb2))
      have HA2 := hid (At.of_own hown2)
      clear hb2 HO hown2
      go_wp2_with (
        at_builtin
        refine append_strs rfl _ _ rfl w1.heap.size (.slice A n cc) L M n M.length HN.out rfl A2 cc2 w2.heap.size hm0 rfl rfl HO2.out.2 HA2.out (by omega) (by omega) (fun v' w3 k1 k2 k3 => ?_)
        obtain ⟨A', cc', rfl⟩ := own_shape k1
        have HB := hid (HO2.out.1.grown k2 (by omega) (fun k hk => own_ge HO2.out.2 k hk))
        have HOO := hid k1
        clear k1 k2 k3)
      go_roundg (SP.length - (k + 1))
      case measure => omega
      case rel => exact ⟨k + 1, L ++ M, n + M.length, A', cc', rfl, by go_num, by rw [List.length_append, HN.out], by omega, by omega, by omega, hid HST.out.symm, hid ⟨HB.out, HOO.out⟩⟩
    · have hli : ¬ ((k : Int) < (SP.length : Int)) := by omega
      have hke : k = SP.length := by omega
      have hLR : L = R := by rw [HL.out, hke, List.take_length, ← HR.out]
      subst hLR
      have HOR := hid HO.out
      clear HL HO HR HT hke CL
      subst hn
      have HA := hid (At.of_own HOR.out.2)
      generalize wr = wq at *
      go_wp2
      go_loopg [9, 27] L.length (fun gh v9 v27 wx => ∃ (k m : Nat), v9 = .int .i64 (m : Int) ∧ v27 = .int .i64 k ∧ k ≤ L.length ∧ L.length - k ≤ gh ∧ m ≤ 8000000 ∧ Hid (m = widest (L.take k)) ∧ Hid (Below wq.heap.size wq wx))
      case atStart => exact ⟨0, 0, rfl, rfl, by omega, by omega, by omega, hid rfl, hid (Below.refl _ _)⟩
      case round =>
        obtain ⟨k2, m, rfl, rfl, hk2, hgh2, hm8, HM, HX⟩ := hrel
        have hsx := HX.out.size
        by_cases hlt : k2 < L.length
        · have hli : (k2 : Int) < (L.length : Int) := by omega
          obtain ⟨g, o, rfl, hg, c0⟩ := (HA.out.below HX.out).st hlt
          have hst := widest_take L hlt
          rw [← HM.out] at hst
          have hle := HLN.out _ (List.getElem_mem hlt)
          obtain ⟨p, hp⟩ : ∃ p, L[k2]'hlt = p := ⟨_, rfl⟩
          rw [hp] at c0 hst hle
          have hcl := cells_le p
          have hpl := pcs_len p
          have hsz : (ByteArray.mk p.toArray).size = p.length := mk_size p
          have CP := fun w => small (pieces_any ⟨p.toArray⟩ w (by omega)) (by omega)
          unfold cellsL at hst hcl
          have hgx : g < wr.heap.size := by omega
          obtain ⟨P, hP⟩ : ∃ P, pcs p = P := ⟨_, rfl⟩
          rw [hP] at hst hcl hpl CP
          have HST := hid hst
          have hPle : P.length ≤ 1000000000000000000 := by omega
          have hTm : total P ≤ 8000000 := by omega
          clear hst hp hsz hle hcl hpl hP
          go_wp2_with fail
          refine (CP _).mono ?_
          rintro e w2 ⟨A2, cc2, rfl, hown2, hb2⟩
          have hs2 := hb2.size
          have CT := total_any w2.heap.size P A2 cc2 w2 (At.of_own hown2) (Nat.le_refl _) hPle
          have HB2 := hid (HX.out.trans (hb2.mono hsx))
          clear hb2 hown2 HX
          go_wp2_with fail
          refine CT.mono ?_
          rintro e w3 ⟨rfl, hb3⟩
          have HB3 := hid (HB2.out.trans (hb3.mono (by omega)))
          have hs3 := hb3.size
          clear hb3 CT CP
          generalize total P = T at *
          by_cases hmx : (m : Int) ≤ (T : Int)
          · have hst2 : widest (L.take (k2 + 1)) = T := by rw [HST.out]; exact Nat.max_eq_right (by omega)
            go_wp2
            go_roundg (L.length - (k2 + 1))
            case measure => omega
            case rel => exact ⟨k2 + 1, T, by go_num, by go_num, by omega, by omega, by omega, hid hst2.symm, HB3⟩
          · have hst2 : widest (L.take (k2 + 1)) = m := by rw [HST.out]; exact Nat.max_eq_left (by omega)
            go_wp2
            go_roundg (L.length - (k2 + 1))
            case measure => omega
            case rel => exact ⟨k2 + 1, m, by go_num, by go_num, by omega, by omega, by omega, hid hst2.symm, HB3⟩
        · have hli : ¬ ((k2 : Int) < (L.length : Int)) := by omega
          have hke : k2 = L.length := by omega
          have hmw : m = widest L := by rw [HM.out, hke, List.take_length]
          have HW := hid hmw
          clear hmw
          go_wp2
          refine bodyPost_ret (v := .tuple #[.slice A L.length cc, .int .i64 (m : Int)]) (by simp [results, Tryd.results20, go_sem]) rfl ?_
          refine ⟨A, cc, by rw [← HW.out], own_mono (own_below' HOR.out.2 HX.out) hs1, ?_⟩
          exact (HB0.out.trans (HOR.out.1.mono hs1)).trans (HX.out.mono (by omega))
end Go.Proofs.YtoelmcmdiamnnaaDoor
