/- Layer 21: the reference's Chord. -/
import Derived.Test.YtddigbhijfpmkaaDoorKeM
import Derived.Deep.LoopGhost
namespace Go.Proofs.YtddigbhijfpmkaaDoor
set_option linter.unusedVariables false
set_option linter.unusedSimpArgs false
set_option maxRecDepth 100000
open Go.RowKit Go.Shelf Go.Lib
set_option maxRecDepth 100000
set_option maxHeartbeats 8000000

theorem parseG_le : ∀ (f md at_ : Nat) (l : By), (parseG f md at_ l).2.1 ≤ at_ + l.length
  | 0, _, at_, l => Nat.le_add_right _ _
  | f + 1, md, at_, l => by
    rw [parseG_at]
    split
    · split
      · exact Nat.zero_le _
      · exact Nat.le_add_right _ _
    · split
      · exact Nat.le_add_right _ _
      · have := parseG_le f (md ||| (modL l).1) (at_ + (modL l).2) (l.drop (modL l).2)
        rw [List.length_drop] at this
        rcases modL_cases l with ⟨h1, h2⟩ | ⟨_, _, h⟩
        · omega
        · omega
theorem parseL_le (l : By) : (parseL l).2.1 ≤ l.length := by
  have := parseG_le (l.length + 1) 0 0 l
  rwa [Nat.zero_add] at this
theorem rChord_any (s : ByteArray) (w : World) (hT : Tabs w) : Calls Tryd.prog 20 #[.string s] w (ChordP w (chordL s.data.toList)) := by
  unfold chordL
  rw [ba_len]
  by_cases h : 65536 < s.size
  · have h1 : (65536 : Int) < (s.size : Int) := by omega
    rw [if_pos h]
    go_enter Tryd.func20, Tryd.ntmps20
    go_wp2
    exact bodyPost_ret (by simp [results, Tryd.results20, go_sem, *]) rfl ⟨none, 0, rfl, World.ownsRow_nil _ _ _ _, Below.refl _ _⟩
  · have h1 : ¬ ((65536 : Int) < (s.size : Int)) := by omega
    rw [if_neg h]
    obtain ⟨Z, hZ⟩ : ∃ Z, chordG [] 0 (cutB s.data.toList) = Z := ⟨_, rfl⟩
    rw [hZ]
    have hsz : s.size ≤ 65536 := by omega
    have HZ0 := hid hZ
    clear hZ h
    go_enter Tryd.func20, Tryd.ntmps20
    go_wp2
    go_loopg [5, 6, 7] (s.size + 1) (fun gh v5 v6 v7 wr => ∃ (i frm : Nat) (A : Option Addr) (c : Nat) (acc : List Ky) (tail : List By), v5 = .slice A acc.length c ∧ v6 = .int .i64 frm ∧ v7 = .int .i64 i ∧ wr.ownsRow w.heap.size 31 2 (.slice A acc.length c) acc.length (kys acc) ∧ acc.length ≤ 8 ∧ i ≤ s.size + 1 ∧ s.size + 1 - i ≤ gh ∧ frm ≤ i ∧
      Hid (chordG acc frm tail = Z) ∧ Hid ((i ≤ s.size ∧ tail = cutB (s.data.toList.drop frm) ∧ NoBl s.data.toList frm i) ∨ (i = s.size + 1 ∧ tail = [])) ∧ Below w.heap.size w wr)
    case atStart => exact ⟨0, 0, none, 0, [], _, rfl, rfl, rfl, World.ownsRow_nil _ _ _ _, by decide, by omega, by omega, by omega, hid HZ0.out, hid (.inl ⟨by omega, by rw [List.drop_zero], fun j h1 h2 => by omega⟩), Below.refl _ _⟩
    case round =>
      obtain ⟨i, frm, A, c, acc, tail, rfl, rfl, rfl, hown, hacc, hi, hgh, hfi, HZ, HS, hbr⟩ := hrel
      have hsr := hbr.size
      by_cases hle : i ≤ s.size
      · have hli : (i : Int) ≤ (s.size : Int) := by omega
        obtain ⟨_, rfl, hnb⟩ : i ≤ s.size ∧ tail = cutB (s.data.toList.drop frm) ∧ NoBl s.data.toList frm i := by
          rcases HS.out with h | ⟨h, _⟩
          · exact h
          · omega
        have HB := hid hnb
        clear hnb HS
        have hrest : (∃ (hlt : i < s.size) (x : UInt8), s[i]'hlt = x ∧ x ≠ 32) ∨ ∃ t', cutB (s.data.toList.drop frm) = (s.data.toList.take i).drop frm :: t' ∧ ((i = s.size ∧ t' = []) ∨ (∃ (hlt : i < s.size), s[i]'hlt = 32 ∧ t' = cutB (s.data.toList.drop (i + 1)))) := by
          have hb := HB.out
          by_cases hlt : i < s.size
          · by_cases hx : s[i]'hlt = 32
            · right
              exact ⟨_, cut_blank hfi (by rw [ba_len]; exact hlt) hb (by rw [← hx]; rfl), .inr ⟨hlt, hx, rfl⟩⟩
            · exact .inl ⟨hlt, _, rfl, hx⟩
          · have hie : i = s.data.toList.length := by rw [ba_len]; omega
            right
            refine ⟨[], ?_, .inl ⟨by omega, rfl⟩⟩
            rw [hie] at hb ⊢
            exact cut_end (by omega) hb
        rcases hrest with ⟨hlt, x, hx, hne⟩ | ⟨t', ht, hend⟩
        · have hl2 : (i : Int) < (s.size : Int) := by omega
          have hxi : ((x.toNat : Int) == 32) = false := beq_eq_false_iff_ne.2 (fun h => hne (UInt8.toNat_inj.1 (by show x.toNat = 32; omega)))
          have HX := hid hne
          clear hne
          go_wp2
          go_roundg (s.size + 1 - (i + 1))
          case measure => omega
          case rel =>
            refine ⟨i + 1, frm, A, c, acc, _, rfl, rfl, by go_num, hown, hacc, by omega, by omega, by omega, HZ, hid (.inl ⟨by omega, rfl, fun j h1 h2 => ?_⟩), hbr⟩
            by_cases hj : j = i
            · subst hj
              rw [List.getD_eq_getElem?_getD, List.getElem?_eq_getElem (by rw [ba_len]; exact hlt)]
              intro h
              exact HX.out (by rw [← hx]; exact h)
            · exact HB.out j h1 (by omega)
        · have hz := HZ.out
          rw [ht, chordG_cons] at hz
          have HT := hid ht
          clear ht
          have hpl : ((s.data.toList.take i).drop frm).length = i - frm := by rw [List.length_drop, List.length_take, ba_len]; omega
          have CP := rparse_any (s.extract frm i) wr (tabs_on hT hbr) (by rw [ByteArray.size_extract]; omega)
          rw [show (s.extract frm i).data.toList = (s.data.toList.take i).drop frm by rw [ba_sub]] at CP
          have hle2 := parseL_le ((s.data.toList.take i).drop frm)
          rw [hpl] at hle2 hz
          generalize parseL ((s.data.toList.take i).drop frm) = Y at *
          obtain ⟨⟨ynm, ymd⟩, yat, yer⟩ := Y
          simp only [kyV] at CP hz hle2
          have hfr : (frm : Int) ≤ (i : Int) := by omega
          obtain ⟨N, hN⟩ : ∃ N, acc.length = N := ⟨_, rfl⟩
          have hN8 : N ≤ 8 := by omega
          have HEND := hid hend
          have hcond : (decide (i < s.size) = false ∧ decide ((i : Int) < (s.size : Int)) = false) ∨ ∃ hlt : i < s.size, (i : Int) < (s.size : Int) ∧ s[i]'hlt = 32 := by
            rcases hend with ⟨h, _⟩ | ⟨h, h2, _⟩
            · exact .inl ⟨decide_eq_false (by omega), decide_eq_false (by omega)⟩
            · exact .inr ⟨h, by omega, h2⟩
          clear hend hpl
          by_cases h8 : N = 8
          · rw [if_pos (by rw [hN]; exact h8)] at hz
            subst hz
            rw [hN] at hown ⊢
            subst h8
            have HN := hid hN
            clear hN
            rcases hcond with ⟨d1, d2⟩ | ⟨hlt, d1, d2⟩
            all_goals
              go_wp2
              exact bodyPost_ret (by simp [results, Tryd.results20, go_sem, *]) rfl ⟨none, 0, rfl, World.ownsRow_nil _ _ _ _, hbr⟩
          · subst hN
            rw [if_neg h8] at hz
            have hl8 : acc.length < 8 := by omega
            have h8i : ((acc.length : Int) == 8) = false := beq_eq_false_iff_ne.2 (by omega)
            by_cases hy : yer = 0
            · subst hy
              rw [if_neg (by simp)] at hz
              have HZ2 := hid hz
              clear hz h8
              rcases hcond with ⟨d1, d2⟩ | ⟨hlt, d1, d2⟩
              all_goals
                go_wp2_with fail
                refine CP.mono ?_
                rintro e w2 ⟨rfl, hb2⟩
                have hown2 := own_below' hown hb2
                have hB2 := hbr.trans (hb2.mono hbr.size)
                have hs2 := hB2.size
                clear hb2 CP hown hbr
                go_wp2_with (first | (at_builtin; refine append_key rfl (.tmp 48) (.tmp 50) rfl w.heap.size _ acc ⟨ynm.toArray⟩ ymd (w2.heap.size + 1) rfl rfl ((hown2.alloc _).alloc _) (by simp [go_sem]) (by simp [go_sem]) ?_ ?_ ?_))
                · omega
                · simp; omega
                intro v3 w3 hown3 hg3 _
                obtain ⟨A3, c3, rfl⟩ := own_shape hown3
                have hb3 : Below w.heap.size w w3 := ((hB2.alloc hs2 _).alloc (by simp; omega) _).grown hg3 (by simp; omega) (own_ge hown2)
                clear hg3 hown2 hB2
                go_wp2
                go_roundg (s.size + 1 - (i + 1))
                case measure => omega
                case rel =>
                  have e : (⟨(ByteArray.mk ynm.toArray).data.toList, ymd⟩ : Ky) = ⟨ynm, ymd⟩ := by simp
                  rw [e] at hown3
                  refine ⟨i + 1, i + 1, A3, c3, acc ++ [⟨ynm, ymd⟩], t', by simp, by go_num, by go_num, by rw [List.length_append]; exact hown3, by rw [List.length_append]; show acc.length + 1 ≤ 8; omega, by omega, by omega, by omega, hid ?_, hid ?_, hb3⟩
                  · have := HZ2.out
                    rwa [show frm + (i - frm) + 1 = i + 1 by omega] at this
                  · rcases HEND.out with ⟨h1, h2⟩ | ⟨h1, h2, h3⟩
                    · exact .inr ⟨by omega, h2⟩
                    · exact .inl ⟨by omega, h3, fun j h1 h2 => by omega⟩
            · rw [if_pos hy] at hz
              subst hz
              have hyi : ((yer : Int) == 0) = false := beq_eq_false_iff_ne.2 (by omega)
              have hyb : (yat : Int) ≤ 65536 := by omega
              clear h8
              rcases hcond with ⟨d1, d2⟩ | ⟨hlt, d1, d2⟩
              all_goals
                go_wp2_with fail
                refine CP.mono ?_
                rintro e w2 ⟨rfl, hb2⟩
                have hB2 := hbr.trans (hb2.mono hbr.size)
                clear hb2 CP hbr
                go_wp2
                refine bodyPost_ret (v := .tuple #[.slice none 0 0, .int .i64 ((frm : Int) + (yat : Int)), .int .i64 (yer : Int)]) (by simp [results, Tryd.results20, go_sem, *]) rfl ⟨none, 0, ?_, World.ownsRow_nil _ _ _ _, hB2.alloc (by have := hB2.size; omega) _⟩
                simp
      · have hli : ¬ ((i : Int) ≤ (s.size : Int)) := by omega
        obtain ⟨_, rfl⟩ : i = s.size + 1 ∧ tail = [] := by
          rcases HS.out with ⟨h, _⟩ | h
          · omega
          · exact h
        have hz : Z = (acc, 0, 0) := HZ.out.symm
        subst hz
        go_wp2
        exact bodyPost_ret (by simp [results, Tryd.results20, go_sem, *]) rfl ⟨A, c, rfl, hown, hbr⟩
end Go.Proofs.YtddigbhijfpmkaaDoor
