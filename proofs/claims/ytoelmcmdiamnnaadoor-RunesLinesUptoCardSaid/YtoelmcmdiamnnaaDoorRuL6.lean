/- Layer 3: the reference's Lines. -/
import Derived.Test.YtoelmcmdiamnnaaDoorRuL5
namespace Go.Proofs.YtoelmcmdiamnnaaDoor
set_option linter.unusedVariables false
set_option linter.unusedSimpArgs false
set_option maxRecDepth 100000
open Go.RowKit Go.Lib

theorem spl_none : ∀ t : By, (∀ b ∈ t, b ≠ 10) → spl t = [t]
  | [], _ => rfl
  | b :: t, h => by
    rw [spl_cons, if_neg (h b (by simp)), spl_none t (fun x hx => h x (by simp [hx]))]
theorem spl_cut : ∀ (u v : By), (∀ b ∈ u, b ≠ 10) → spl (u ++ 10 :: v) = u :: spl v
  | [], v, _ => by rw [List.nil_append, spl_cons, if_pos rfl]
  | b :: u, v, h => by
    rw [List.cons_append, spl_cons, if_neg (h b (by simp)), spl_cut u v (fun x hx => h x (by simp [hx]))]
/-- No line end between two places. -/
def NoEnd (S : By) (f i : Nat) : Prop := ∀ j (hj : j < S.length), f ≤ j → j < i → S[j]'hj ≠ 10
theorem noEnd_zero (S : By) (f : Nat) : NoEnd S f f := fun j _ h1 h2 => absurd h2 (by omega)
theorem noEnd_succ {S : By} {f i : Nat} (h : NoEnd S f i) (hi : i < S.length) (hx : S[i]'hi ≠ 10) : NoEnd S f (i + 1) := by
  intro j hj h1 h2
  by_cases e : j = i
  · subst e
    exact hx
  · exact h j hj h1 (by omega)
theorem noEnd_seg {S : By} {f i : Nat} (h : NoEnd S f i) : ∀ b ∈ (S.drop f).take (i - f), b ≠ 10 := by
  intro b hb
  obtain ⟨j, hj, rfl⟩ := List.mem_iff_getElem.1 hb
  rw [List.length_take, List.length_drop] at hj
  rw [List.getElem_take, List.getElem_drop]
  exact h (f + j) (by omega) (by omega) (by omega)
theorem spl_step {S : By} {f i : Nat} (h : NoEnd S f i) (hf : f ≤ i) (hi : i < S.length) (hx : S[i]'hi = 10) : spl (S.drop f) = (S.drop f).take (i - f) :: spl (S.drop (i + 1)) := by
  have e : S.drop f = (S.drop f).take (i - f) ++ 10 :: S.drop (i + 1) := by
    rw [← hx]
    have h2 : (S.drop f).drop (i - f) = S[i] :: S.drop (i + 1) := by
      rw [List.drop_drop, show f + (i - f) = i by omega]
      exact List.drop_eq_getElem_cons hi
    rw [← h2, List.take_append_drop]
  rw [show spl (S.drop f) = spl ((S.drop f).take (i - f) ++ 10 :: S.drop (i + 1)) by rw [← e]]
  exact spl_cut _ _ (noEnd_seg h)
theorem spl_end {S : By} {f : Nat} (h : NoEnd S f S.length) : spl (S.drop f) = [S.drop f] := by
  apply spl_none
  have := noEnd_seg h
  rwa [List.take_of_length_le (by rw [List.length_drop]; omega)] at this
set_option maxHeartbeats 4000000
set_option maxRecDepth 100000
theorem rLines_any (s : ByteArray) (c : Int) (w : World) (hs : s.size ≤ 4000000) :
    Calls Tryd.prog 21 #[.string s, .int .i64 c] w (LinP (linesE c s.data.toList) w) := by
  have hl2 : s.data.toList.length = s.size := by simp
  have hlin := fun l (h : l ∈ linesE c s.data.toList) => line_len h
  have hR : (spl (s.data.toList.drop 0)).flatMap (parE c) = linesE c s.data.toList := rfl
  have hRn : (linesE c s.data.toList).length ≤ s.size + 1 := by
    have h1 := take_len c (spl s.data.toList) (spl s.data.toList).length
    rw [List.take_length, spl_sum, hl2] at h1
    exact h1
  have hG : ∀ k (hk : k < s.size) (h2 : k < s.data.toList.length), s.data.toList[k]'h2 = s[k]'hk := fun k hk h2 => by simp [ByteArray.getElem_eq_getElem_data]
  rw [hl2] at hlin
  generalize linesE c s.data.toList = R at *
  have HLN := hid hlin
  have HR := hid hR
  have HG := hid hG
  have CL : ∀ (f i : Nat), f ≤ i → i ≤ s.size → ∀ w, Calls Tryd.prog 51 #[.string (s.extract f i), .int .i64 c] w (ParP (parE c ((s.data.toList.drop f).take (i - f))) w) := by
    intro f i h1 h2 w
    have q := paragraph_any (s.extract f i) c w (by rw [ByteArray.size_extract]; omega)
    rwa [ext_two _ _ _ h1] at q
  clear hlin hR hG
  go_enter Tryd.func21, Tryd.ntmps21
  go_wp2
  go_loopg [6, 7, 8] (s.size + 1) (fun gh v6 v7 v8 wr => ∃ (f i : Nat) (L : List By) (n : Nat) (A : Option Addr) (cc : Nat), v6 = .slice A n cc ∧ v7 = .int .i64 f ∧ v8 = .int .i64 i ∧ L.length = n ∧ f ≤ i ∧ i ≤ s.size + 1 ∧ s.size + 1 - i ≤ gh ∧ Hid ((i = s.size + 1 ∧ L = R) ∨ (i ≤ s.size ∧ NoEnd s.data.toList f i ∧ L ++ (spl (s.data.toList.drop f)).flatMap (parE c) = R)) ∧ Hid (Below w.heap.size w wr ∧ wr.ownsRow w.heap.size 9 1 (.slice A n cc) n (strs L)))
  case atStart => exact ⟨0, 0, [], 0, none, 0, rfl, rfl, rfl, rfl, by omega, by omega, by omega, hid (.inr ⟨by omega, noEnd_zero _ _, HR.out⟩), hid ⟨Below.refl _ _, World.ownsRow_nil _ _ _ _⟩⟩
  case round =>
    obtain ⟨f, i, L, n, A, cc, rfl, rfl, rfl, hn, hfi, hi, hgh, HQ, HO⟩ := hrel
    have hsr := HO.out.1.size
    by_cases hlt : i ≤ s.size
    · have hli : (i : Int) ≤ (s.size : Int) := by omega
      have hfi' : (f : Int) ≤ (i : Int) := by omega
      have HQ2 := hid (HQ.out.resolve_left (fun h => absurd h.1 (by omega)))
      have C := CL f i hfi hlt wr
      have hpn := parE_ne c ((s.data.toList.drop f).take (i - f))
      have HN := hid hn
      by_cases hlt2 : i < s.size
      · have hli2 : ¬ ((i : Int) = (s.size : Int)) := by omega
        have hli3 : ((i : Int) == (s.size : Int)) = false := by simpa using hli2
        obtain ⟨x, hx⟩ : ∃ x, s[i]'hlt2 = x := ⟨_, rfl⟩
        by_cases h10 : x.toNat = 10
        · have hx10 : x = 10 := UInt8.toNat_inj.1 h10
          have hst := spl_step HQ2.out.2.1 hfi (by rw [hl2]; exact hlt2) (by rw [HG.out i hlt2, hx, hx10])
          obtain ⟨M, hM⟩ : ∃ M, parE c ((s.data.toList.drop f).take (i - f)) = M := ⟨_, rfl⟩
          rw [hM] at C hpn
          have hq := HQ2.out.2.2
          rw [hst, List.flatMap_cons, hM, ← List.append_assoc] at hq
          have hm0 : 0 < M.length := List.length_pos_iff.2 hpn
          have hnm : n + M.length ≤ 4000001 := by
            have := congrArg List.length hq
            rw [List.length_append, List.length_append, hn] at this
            omega
          have HQ3 := hid hq
          subst hx10
          clear hst hM hpn hq HQ HQ2 hn CL h10
          go_wp2_with fail
          refine C.mono ?_
          rintro e w2 ⟨A2, cc2, rfl, hown2, hb2⟩
          have hs2 := hb2.size
          have HO2 := hid (And.intro (HO.out.1.trans (hb2.mono hsr)) (own_below' HO.out.2 hb2))
          have HA2 := hid (At.of_own hown2)
          clear hb2 HO hown2
          go_wp2_with (
            at_builtin
            refine append_strs rfl _ _ rfl w.heap.size (.slice A n cc) L M n M.length HN.out rfl A2 cc2 w2.heap.size hm0 rfl rfl HO2.out.2 HA2.out (by omega) (by omega) (fun v' w3 k1 k2 k3 => ?_)
            obtain ⟨A', cc', rfl⟩ := own_shape k1
            have HB := hid (HO2.out.1.grown k2 (by omega) (fun k hk => own_ge HO2.out.2 k hk))
            have HOO := hid k1
            clear k1 k2 k3)
          go_roundg (s.size + 1 - (i + 1))
          case measure => omega
          case rel => exact ⟨i + 1, i + 1, L ++ M, n + M.length, A', cc', rfl, by go_num, by go_num, by rw [List.length_append, HN.out], by omega, by omega, by omega, hid (.inr ⟨by omega, noEnd_zero _ _, HQ3.out⟩), hid ⟨HB.out, HOO.out⟩⟩
        · have hx10 : x ≠ 10 := fun h => h10 (by rw [h]; rfl)
          have HQ3 := hid (And.intro (noEnd_succ HQ2.out.2.1 (by rw [hl2]; exact hlt2) (by rw [HG.out i hlt2, hx]; exact hx10)) HQ2.out.2.2)
          have hxi : ¬ ((x.toNat : Int) = 10) := by omega
          have hxb : ((x.toNat : Int) == 10) = false := by simpa using hxi
          clear C hpn HQ HQ2 CL hn
          go_wp2
          go_roundg (s.size + 1 - (i + 1))
          case measure => omega
          case rel => exact ⟨f, i + 1, L, n, A, cc, rfl, rfl, by go_num, HN.out, by omega, by omega, by omega, hid (.inr ⟨by omega, HQ3.out⟩), HO⟩
      · have hie : i = s.size := by omega
        have hli2 : (i : Int) = (s.size : Int) := by omega
        have hq := HQ2.out.2.2
        have hne := HQ2.out.2.1
        rw [hie, ← hl2] at hne
        rw [spl_end hne, List.flatMap_cons, List.flatMap_nil, List.append_nil] at hq
        rw [List.take_of_length_le (by rw [List.length_drop, hl2]; omega)] at C hpn
        obtain ⟨M, hM⟩ : ∃ M, parE c (s.data.toList.drop f) = M := ⟨_, rfl⟩
        rw [hM] at C hpn hq
        have hm0 : 0 < M.length := List.length_pos_iff.2 hpn
        have hnm : n + M.length ≤ 4000001 := by
          have := congrArg List.length hq
          rw [List.length_append, hn] at this
          omega
        have HQ3 := hid hq
        subst hie
        clear hM hpn hq HQ HQ2 hn CL hne
        go_wp2_with fail
        refine C.mono ?_
        rintro e w2 ⟨A2, cc2, rfl, hown2, hb2⟩
        have hs2 := hb2.size
        have HO2 := hid (And.intro (HO.out.1.trans (hb2.mono hsr)) (own_below' HO.out.2 hb2))
        have HA2 := hid (At.of_own hown2)
        clear hb2 HO hown2
        go_wp2_with (
          at_builtin
          refine append_strs rfl _ _ rfl w.heap.size (.slice A n cc) L M n M.length HN.out rfl A2 cc2 w2.heap.size hm0 rfl rfl HO2.out.2 HA2.out (by omega) (by omega) (fun v' w3 k1 k2 k3 => ?_)
          obtain ⟨A', cc', rfl⟩ := own_shape k1
          have HB := hid (HO2.out.1.grown k2 (by omega) (fun k hk => own_ge HO2.out.2 k hk))
          have HOO := hid k1
          clear k1 k2 k3)
        go_roundg 0
        case measure => omega
        case rel => exact ⟨s.size + 1, s.size + 1, L ++ M, n + M.length, A', cc', rfl, by go_num, by go_num, by rw [List.length_append, HN.out], by omega, by omega, by omega, hid (.inl ⟨rfl, HQ3.out⟩), hid ⟨HB.out, HOO.out⟩⟩
    · have hli : ¬ ((i : Int) ≤ (s.size : Int)) := by omega
      have hLR : L = R := (HQ.out.resolve_right (fun h => hlt h.1)).2
      subst hLR
      have HOR := hid HO.out
      clear HQ HO HR CL
      subst hn
      have HA := hid (At.of_own HOR.out.2)
      generalize wr = wq at *
      go_wp2
      go_loopg [9, 10] L.length (fun gh v9 v27 wr => ∃ (k m : Nat), v9 = .int .i64 (m : Int) ∧ v27 = .int .i64 k ∧ k ≤ L.length ∧ L.length - k ≤ gh ∧ m ≤ 8000000 ∧ Hid (m = widest (L.take k)) ∧ Hid (Below wq.heap.size wq wr))
      case atStart => exact ⟨0, 0, rfl, rfl, by omega, by omega, by omega, hid rfl, hid (Below.refl _ _)⟩
      case round =>
        obtain ⟨k2, m, rfl, rfl, hk2, hgh2, hm8, HM, HX⟩ := hrel
        have hsx := HX.out.size
        by_cases hlt : k2 < L.length
        · have hli : (k2 : Int) < (L.length : Int) := by omega
          obtain ⟨g, o, rfl, hg, c0⟩ := (HA.out.below HX.out).st hlt
          have hst := widest_take L hlt
          rw [← HM.out] at hst
          have hle := HLN.out _ (List.getElem_mem hlt)
          obtain ⟨p, hp⟩ : ∃ p, L[k2]'hlt = p := ⟨_, rfl⟩
          rw [hp] at c0 hst hle
          have hcl := cells_le p
          have hpl := pcs_len p
          have hsz : (ByteArray.mk p.toArray).size = p.length := mk_size p
          have CP := fun w => small (rCells_any ⟨p.toArray⟩ w (by omega)) (by omega)
          unfold cellsL at hst hcl
          have hgx : g < wr.heap.size := by omega
          obtain ⟨P, hP⟩ : ∃ P, pcs p = P := ⟨_, rfl⟩
          rw [hP] at hst hcl hpl CP
          have HST := hid hst
          have hPle : P.length ≤ 1000000000000000000 := by omega
          have hTm : total P ≤ 8000000 := by omega
          generalize total P = T at *
          generalize P.length = PN at *
          clear hst hp hsz hle hcl hpl hP
          go_wp2_with fail
          refine (CP _).mono ?_
          rintro e w2 ⟨rfl, hb2⟩
          have hs2 := hb2.size
          have HB3 := hid (HX.out.trans (hb2.mono hsx))
          clear hb2 HX CP
          by_cases hmx : (m : Int) < (T : Int)
          · have hst2 : widest (L.take (k2 + 1)) = T := by rw [HST.out]; exact Nat.max_eq_right (by omega)
            go_wp2
            go_roundg (L.length - (k2 + 1))
            case measure => omega
            case rel => exact ⟨k2 + 1, T, by go_num, by go_num, by omega, by omega, by omega, hid hst2.symm, HB3⟩
          · have hst2 : widest (L.take (k2 + 1)) = m := by rw [HST.out]; exact Nat.max_eq_left (by omega)
            have hmx' : (T : Int) ≤ (m : Int) := by omega
            go_wp2
            go_roundg (L.length - (k2 + 1))
            case measure => omega
            case rel => exact ⟨k2 + 1, m, by go_num, by go_num, by omega, by omega, by omega, hid hst2.symm, HB3⟩
        · have hli : ¬ ((k2 : Int) < (L.length : Int)) := by omega
          have hke : k2 = L.length := by omega
          have hmw : m = widest L := by rw [HM.out, hke, List.take_length]
          have HW := hid hmw
          clear hmw
          go_wp2
          refine bodyPost_ret (v := .tuple #[.slice A L.length cc, .int .i64 (m : Int)]) (by simp [results, Tryd.results21, go_sem]) rfl ?_
          refine ⟨A, cc, by rw [← HW.out], own_below' HOR.out.2 HX.out, ?_⟩
          exact HOR.out.1.trans (HX.out.mono (by omega))
end Go.Proofs.YtoelmcmdiamnnaaDoor
