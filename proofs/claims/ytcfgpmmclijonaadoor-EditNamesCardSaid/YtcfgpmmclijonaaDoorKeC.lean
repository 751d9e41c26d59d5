/- Layer 21: words, names, whether a key may be, both sides. (Printed by gen_c.py.) -/
import Derived.Test.YtcfgpmmclijonaaDoorKeB
namespace Go.Proofs.YtcfgpmmclijonaaDoor
set_option linter.unusedVariables false
set_option linter.unusedSimpArgs false
set_option maxRecDepth 100000
open Go.RowKit Go.Shelf Go.Lib Go.MapKept
set_option maxRecDepth 100000

/-! ### looking up -/
theorem mk_beq (l : By) (s : ByteArray) : ((⟨l.toArray⟩ : ByteArray) == s) = (l == s.data.toList) := by
  rw [ba_beq, Bool.eq_iff_iff]
  simp only [decide_eq_true_eq, beq_iff_eq]
  constructor
  · rintro rfl
    simp
  · rintro rfl
    exact ba_mk s
theorem numV_eq : numV = numsL.map fun p => (⟨p.1.toArray⟩, .agg #[.string ⟨p.2.toArray⟩]) := by rfl
theorem arrV_eq : arrV = arrsL.map fun p => ((p.1 : Int), .agg #[.string ⟨p.2.toArray⟩]) := by rfl
theorem numE_eq : (numE 18).toList = ents 0 (numV.map fun p => (.string p.1, p.2)) := by kernel_rfl
theorem arrE_eq : (arrE 6).toList = ents 0 (arrV.map fun p => (.int .u8 p.1, p.2)) := by kernel_rfl
theorem row_zero (w : World) : (zeroValue 113).run Tryd.prog w = .ok (.agg #[.string { data := #[] }]) w := by kernel_rfl
theorem num_look (b : Nat) (w : World) (hb : w.heap[b]? = some (.map (numE 18) 18)) (n : ByteArray) : (Instr.lookup 110 (.map (some b)) (.string n) false).run Tryd.prog w = .ok (.agg #[.string ⟨(numL n.data.toList).toArray⟩]) w := by
  obtain ⟨r, hr, hv⟩ := find_str n numV 0 0
  rw [← numE_eq] at hr
  rw [run_lookup_now Tryd.underlying110 Tryd.underlying9 (key := .string n) trivial hb hr (row_zero w) false, hv]
  rw [if_neg (by decide), numV_eq, List.find?_map]
  unfold numL
  have : ((fun p : ByteArray × Value => p.1 == n) ∘ fun p : By × By => ((⟨p.1.toArray⟩ : ByteArray), (.agg #[.string ⟨p.2.toArray⟩] : Value))) = fun p => p.1 == n.data.toList := by
    funext p
    exact mk_beq p.1 n
  rw [this]
  cases numsL.find? fun p => p.1 == n.data.toList <;> rfl
/-! ### words -/
def tenL : List By := [[101, 110, 116, 101, 114], [116, 97, 98], [101, 115, 99, 97, 112, 101], [115, 112, 97, 99, 101], [112, 108, 117, 115], [98, 97, 99, 107, 115, 112, 97, 99, 101], [117, 112], [100, 111, 119, 110], [108, 101, 102, 116], [114, 105, 103, 104, 116]]
theorem ten_facts (s : ByteArray) : (decide (s.data.toList ∈ tenL) = false ∧ (s.toList == [101, 110, 116, 101, 114]) = false ∧ (s.toList == [116, 97, 98]) = false ∧ (s.toList == [101, 115, 99, 97, 112, 101]) = false ∧ (s.toList == [115, 112, 97, 99, 101]) = false ∧ (s.toList == [112, 108, 117, 115]) = false ∧ (s.toList == [98, 97, 99, 107, 115, 112, 97, 99, 101]) = false ∧ (s.toList == [117, 112]) = false ∧ (s.toList == [100, 111, 119, 110]) = false ∧ (s.toList == [108, 101, 102, 116]) = false ∧ (s.toList == [114, 105, 103, 104, 116]) = false) ∨
    (decide (s.data.toList ∈ tenL) = true ∧ (s.toList == [101, 110, 116, 101, 114]) = true ∧ (s.toList == [116, 97, 98]) = false ∧ (s.toList == [101, 115, 99, 97, 112, 101]) = false ∧ (s.toList == [115, 112, 97, 99, 101]) = false ∧ (s.toList == [112, 108, 117, 115]) = false ∧ (s.toList == [98, 97, 99, 107, 115, 112, 97, 99, 101]) = false ∧ (s.toList == [117, 112]) = false ∧ (s.toList == [100, 111, 119, 110]) = false ∧ (s.toList == [108, 101, 102, 116]) = false ∧ (s.toList == [114, 105, 103, 104, 116]) = false) ∨
    (decide (s.data.toList ∈ tenL) = true ∧ (s.toList == [101, 110, 116, 101, 114]) = false ∧ (s.toList == [116, 97, 98]) = true ∧ (s.toList == [101, 115, 99, 97, 112, 101]) = false ∧ (s.toList == [115, 112, 97, 99, 101]) = false ∧ (s.toList == [112, 108, 117, 115]) = false ∧ (s.toList == [98, 97, 99, 107, 115, 112, 97, 99, 101]) = false ∧ (s.toList == [117, 112]) = false ∧ (s.toList == [100, 111, 119, 110]) = false ∧ (s.toList == [108, 101, 102, 116]) = false ∧ (s.toList == [114, 105, 103, 104, 116]) = false) ∨
    (decide (s.data.toList ∈ tenL) = true ∧ (s.toList == [101, 110, 116, 101, 114]) = false ∧ (s.toList == [116, 97, 98]) = false ∧ (s.toList == [101, 115, 99, 97, 112, 101]) = true ∧ (s.toList == [115, 112, 97, 99, 101]) = false ∧ (s.toList == [112, 108, 117, 115]) = false ∧ (s.toList == [98, 97, 99, 107, 115, 112, 97, 99, 101]) = false ∧ (s.toList == [117, 112]) = false ∧ (s.toList == [100, 111, 119, 110]) = false ∧ (s.toList == [108, 101, 102, 116]) = false ∧ (s.toList == [114, 105, 103, 104, 116]) = false) ∨
    (decide (s.data.toList ∈ tenL) = true ∧ (s.toList == [101, 110, 116, 101, 114]) = false ∧ (s.toList == [116, 97, 98]) = false ∧ (s.toList == [101, 115, 99, 97, 112, 101]) = false ∧ (s.toList == [115, 112, 97, 99, 101]) = true ∧ (s.toList == [112, 108, 117, 115]) = false ∧ (s.toList == [98, 97, 99, 107, 115, 112, 97, 99, 101]) = false ∧ (s.toList == [117, 112]) = false ∧ (s.toList == [100, 111, 119, 110]) = false ∧ (s.toList == [108, 101, 102, 116]) = false ∧ (s.toList == [114, 105, 103, 104, 116]) = false) ∨
    (decide (s.data.toList ∈ tenL) = true ∧ (s.toList == [101, 110, 116, 101, 114]) = false ∧ (s.toList == [116, 97, 98]) = false ∧ (s.toList == [101, 115, 99, 97, 112, 101]) = false ∧ (s.toList == [115, 112, 97, 99, 101]) = false ∧ (s.toList == [112, 108, 117, 115]) = true ∧ (s.toList == [98, 97, 99, 107, 115, 112, 97, 99, 101]) = false ∧ (s.toList == [117, 112]) = false ∧ (s.toList == [100, 111, 119, 110]) = false ∧ (s.toList == [108, 101, 102, 116]) = false ∧ (s.toList == [114, 105, 103, 104, 116]) = false) ∨
    (decide (s.data.toList ∈ tenL) = true ∧ (s.toList == [101, 110, 116, 101, 114]) = false ∧ (s.toList == [116, 97, 98]) = false ∧ (s.toList == [101, 115, 99, 97, 112, 101]) = false ∧ (s.toList == [115, 112, 97, 99, 101]) = false ∧ (s.toList == [112, 108, 117, 115]) = false ∧ (s.toList == [98, 97, 99, 107, 115, 112, 97, 99, 101]) = true ∧ (s.toList == [117, 112]) = false ∧ (s.toList == [100, 111, 119, 110]) = false ∧ (s.toList == [108, 101, 102, 116]) = false ∧ (s.toList == [114, 105, 103, 104, 116]) = false) ∨
    (decide (s.data.toList ∈ tenL) = true ∧ (s.toList == [101, 110, 116, 101, 114]) = false ∧ (s.toList == [116, 97, 98]) = false ∧ (s.toList == [101, 115, 99, 97, 112, 101]) = false ∧ (s.toList == [115, 112, 97, 99, 101]) = false ∧ (s.toList == [112, 108, 117, 115]) = false ∧ (s.toList == [98, 97, 99, 107, 115, 112, 97, 99, 101]) = false ∧ (s.toList == [117, 112]) = true ∧ (s.toList == [100, 111, 119, 110]) = false ∧ (s.toList == [108, 101, 102, 116]) = false ∧ (s.toList == [114, 105, 103, 104, 116]) = false) ∨
    (decide (s.data.toList ∈ tenL) = true ∧ (s.toList == [101, 110, 116, 101, 114]) = false ∧ (s.toList == [116, 97, 98]) = false ∧ (s.toList == [101, 115, 99, 97, 112, 101]) = false ∧ (s.toList == [115, 112, 97, 99, 101]) = false ∧ (s.toList == [112, 108, 117, 115]) = false ∧ (s.toList == [98, 97, 99, 107, 115, 112, 97, 99, 101]) = false ∧ (s.toList == [117, 112]) = false ∧ (s.toList == [100, 111, 119, 110]) = true ∧ (s.toList == [108, 101, 102, 116]) = false ∧ (s.toList == [114, 105, 103, 104, 116]) = false) ∨
    (decide (s.data.toList ∈ tenL) = true ∧ (s.toList == [101, 110, 116, 101, 114]) = false ∧ (s.toList == [116, 97, 98]) = false ∧ (s.toList == [101, 115, 99, 97, 112, 101]) = false ∧ (s.toList == [115, 112, 97, 99, 101]) = false ∧ (s.toList == [112, 108, 117, 115]) = false ∧ (s.toList == [98, 97, 99, 107, 115, 112, 97, 99, 101]) = false ∧ (s.toList == [117, 112]) = false ∧ (s.toList == [100, 111, 119, 110]) = false ∧ (s.toList == [108, 101, 102, 116]) = true ∧ (s.toList == [114, 105, 103, 104, 116]) = false) ∨
    (decide (s.data.toList ∈ tenL) = true ∧ (s.toList == [101, 110, 116, 101, 114]) = false ∧ (s.toList == [116, 97, 98]) = false ∧ (s.toList == [101, 115, 99, 97, 112, 101]) = false ∧ (s.toList == [115, 112, 97, 99, 101]) = false ∧ (s.toList == [112, 108, 117, 115]) = false ∧ (s.toList == [98, 97, 99, 107, 115, 112, 97, 99, 101]) = false ∧ (s.toList == [117, 112]) = false ∧ (s.toList == [100, 111, 119, 110]) = false ∧ (s.toList == [108, 101, 102, 116]) = false ∧ (s.toList == [114, 105, 103, 104, 116]) = true) := by
  rw [ByteArray.toList_eq]
  generalize s.data.toList = l
  by_cases h : l ∈ tenL
  · rw [decide_eq_true h]
    simp only [tenL, List.mem_cons, List.not_mem_nil, or_false] at h
    rcases h with rfl | rfl | rfl | rfl | rfl | rfl | rfl | rfl | rfl | rfl
    · exact .inr (.inl ⟨rfl, rfl, rfl, rfl, rfl, rfl, rfl, rfl, rfl, rfl, rfl⟩)
    · exact .inr (.inr (.inl ⟨rfl, rfl, rfl, rfl, rfl, rfl, rfl, rfl, rfl, rfl, rfl⟩))
    · exact .inr (.inr (.inr (.inl ⟨rfl, rfl, rfl, rfl, rfl, rfl, rfl, rfl, rfl, rfl, rfl⟩)))
    · exact .inr (.inr (.inr (.inr (.inl ⟨rfl, rfl, rfl, rfl, rfl, rfl, rfl, rfl, rfl, rfl, rfl⟩))))
    · exact .inr (.inr (.inr (.inr (.inr (.inl ⟨rfl, rfl, rfl, rfl, rfl, rfl, rfl, rfl, rfl, rfl, rfl⟩)))))
    · exact .inr (.inr (.inr (.inr (.inr (.inr (.inl ⟨rfl, rfl, rfl, rfl, rfl, rfl, rfl, rfl, rfl, rfl, rfl⟩))))))
    · exact .inr (.inr (.inr (.inr (.inr (.inr (.inr (.inl ⟨rfl, rfl, rfl, rfl, rfl, rfl, rfl, rfl, rfl, rfl, rfl⟩)))))))
    · exact .inr (.inr (.inr (.inr (.inr (.inr (.inr (.inr (.inl ⟨rfl, rfl, rfl, rfl, rfl, rfl, rfl, rfl, rfl, rfl, rfl⟩))))))))
    · exact .inr (.inr (.inr (.inr (.inr (.inr (.inr (.inr (.inr (.inl ⟨rfl, rfl, rfl, rfl, rfl, rfl, rfl, rfl, rfl, rfl, rfl⟩)))))))))
    · exact .inr (.inr (.inr (.inr (.inr (.inr (.inr (.inr (.inr (.inr (⟨rfl, rfl, rfl, rfl, rfl, rfl, rfl, rfl, rfl, rfl, rfl⟩))))))))))
  · rw [decide_eq_false h]
    left
    simp only [tenL, List.mem_cons, List.not_mem_nil, or_false, not_or] at h
    obtain ⟨h1, h2, h3, h4, h5, h6, h7, h8, h9, h10⟩ := h
    simp only [beq_eq_false_iff_ne]
    exact ⟨trivial, h1, h2, h3, h4, h5, h6, h7, h8, h9, h10⟩
theorem words_two (l : By) : l ∈ wordsL ↔ l ∈ numsL.map (·.2) ∨ l ∈ tenL := by
  rw [← List.mem_append]
  have h1 : ∀ x ∈ wordsL, x ∈ numsL.map (·.2) ++ tenL := by decide
  have h2 : ∀ x ∈ numsL.map (·.2) ++ tenL, x ∈ wordsL := by decide
  exact ⟨h1 l, h2 l⟩
theorem num_vals : ∀ e ∈ (numE 18).toList, ∃ l ∈ numsL.map (·.2), e.val = .agg #[.string ⟨l.toArray⟩] := by
  intro e he
  rw [numE_eq] at he
  have h1 := ents_mem _ _ _ he
  rw [numV_eq, List.map_map, List.mem_map] at h1
  obtain ⟨p, hp, hq⟩ := h1
  exact ⟨p.2, List.mem_map.2 ⟨p, hp, rfl⟩, by injection hq with a b; exact b.symm⟩
theorem num_all (l : By) (h : l ∈ numsL.map (·.2)) : ∃ e ∈ (numE 18).toList, e.val = .agg #[.string ⟨l.toArray⟩] := by
  obtain ⟨p, hp, rfl⟩ := List.mem_map.1 h
  rw [numE_eq]
  obtain ⟨x, hx, _, hv⟩ := ents_has 0 (numV.map fun p => (.string p.1, p.2)) (.string ⟨p.1.toArray⟩, .agg #[.string ⟨p.2.toArray⟩]) (by
    rw [numV_eq, List.map_map]
    exact List.mem_map.2 ⟨p, hp, rfl⟩)
  exact ⟨x, hx, hv⟩
theorem num_old : ∀ x ∈ (numE 18).toList, x.born < 18 := by
  intro x hx
  rw [numE_eq] at hx
  have := (ents_born _ _ x hx).2
  rw [List.length_map, show numV.length = 18 by kernel_rfl] at this
  omega
theorem num_nodup : ((numE 18).toList.map (·.born)).Nodup := by rw [numE_eq]; exact ents_nodup _ _
set_option maxHeartbeats 8000000 in
theorem word_any (s : ByteArray) (w : World) : Calls Tryd.prog 64 #[.string s] w fun e w' => e = .returned (.bool (decide (s.data.toList ∈ wordsL))) ∧ Below w.heap.size w w' := by
  have CN := numbered_any w
  have hvals := num_vals
  have hall := num_all
  have hold := num_old
  have hnd := num_nodup
  have HV := hid hvals
  have HA := hid hall
  clear hvals hall
  generalize numE 18 = M at *
  go_enter Tryd.func64, Tryd.ntmps64
  go_wp2_with fail
  refine CN.mono ?_
  rintro e w1 ⟨rfl, hm, hb1⟩
  have hs1 := lt_of_block hm
  have hrg := run_range_map (P := Tryd.prog) w1 110 9 113 w.heap.size M 18 Tryd.underlying110 hm
  go_wp2
  clear hrg
  generalize hr0 : w1.heap.size = r at *
  have hne : w.heap.size ≠ r := by omega
  go_loopw [4] (fun _ wr => ∃ seen, wr.heap[r]? = some (.mapIter (some w.heap.size) 18 seen 18) ∧ wr.heap[w.heap.size]? = some (.map M 18) ∧ Hid (∀ e ∈ M.toList, seen.contains e.born = true → e.val ≠ .agg #[.string s]) ∧ Below w.heap.size w wr)
    (fun _ wr => (leftOf M (wr.iterSeen r)).size)
  case atStart =>
    refine ⟨#[], by rw [← hr0]; exact World.alloc_heap_new _ _, ?_, hid (fun e _ h => by simp at h), hb1.alloc (by omega) _⟩
    rw [Below.heap_alloc _ _ _ (by omega)]
    exact hm
  case round =>
    obtain ⟨seen, hi, hmm, HN, hbr⟩ := hrel
    have hsr := hbr.size
    have hlr := lt_of_block hi
    go_wp2_with (first
      | (at_next; refine wpList_next_now _ rfl _ rfl r w.heap.size 18 18 seen M 18 rfl hi hmm hold (Nat.le_refl _) hnd ?_ ?_)
      | go_in)
    · intro h0
      have hno := all_seen M seen (by rw [h0]; rfl)
      have hnot : ¬ s.data.toList ∈ numsL.map (·.2) := fun hin => by
        obtain ⟨e, he, hv⟩ := HA.out _ hin
        exact HN.out e he (hno e he) (by rw [hv, ba_mk])
      have HNOT := hid hnot
      clear hno hnot
      rcases ten_facts s with ⟨hd, q1, q2, q3, q4, q5, q6, q7, q8, q9, q10⟩ | ⟨hd, q1, q2, q3, q4, q5, q6, q7, q8, q9, q10⟩ | ⟨hd, q1, q2, q3, q4, q5, q6, q7, q8, q9, q10⟩ | ⟨hd, q1, q2, q3, q4, q5, q6, q7, q8, q9, q10⟩ | ⟨hd, q1, q2, q3, q4, q5, q6, q7, q8, q9, q10⟩ | ⟨hd, q1, q2, q3, q4, q5, q6, q7, q8, q9, q10⟩ | ⟨hd, q1, q2, q3, q4, q5, q6, q7, q8, q9, q10⟩ | ⟨hd, q1, q2, q3, q4, q5, q6, q7, q8, q9, q10⟩ | ⟨hd, q1, q2, q3, q4, q5, q6, q7, q8, q9, q10⟩ | ⟨hd, q1, q2, q3, q4, q5, q6, q7, q8, q9, q10⟩ | ⟨hd, q1, q2, q3, q4, q5, q6, q7, q8, q9, q10⟩
      all_goals
        have HD := hid hd
        clear hd
        go_wp2
        go_ret
        refine ⟨ret_bool ?_, hbr⟩
        first
          | exact (decide_eq_true ((words_two _).2 (.inr (of_decide_eq_true HD.out)))).symm
          | exact (decide_eq_false (fun h => ((words_two _).1 h).elim HNOT.out (of_decide_eq_false HD.out))).symm
    · intro e he_ w2 hi2 hsz2 hk2 hB2 hen
      have he : e ∈ (leftOf M seen).toList := by simpa using he_
      obtain ⟨l, hl, hval⟩ := HV.out e (mem_left he).1
      rw [hval] at hen
      have hm2 : w2.heap[w.heap.size]? = some (.map M 18) := (hk2 _ hne).trans hmm
      have hb2 := hbr.trans (hB2 _ (by omega))
      have hi3 : w2.iterSeen r = seen.push e.born := by unfold World.iterSeen; rw [hi2]
      have hi4 : wr.iterSeen r = seen := by unfold World.iterSeen; rw [hi]
      have hsh := left_shrinks M seen e he
      have hev := (mem_left he).1
      by_cases hls : (⟨l.toArray⟩ : ByteArray) = s
      · subst hls
        have hin : ((⟨l.toArray⟩ : ByteArray).data.toList ∈ wordsL) := (words_two _).2 (.inl (by simpa using hl))
        have HIN := hid hin
        clear hin hval hsh hev he he_
        go_wp2
        go_ret
        exact ⟨ret_bool (decide_eq_true HIN.out).symm, hb2.alloc (by omega) _⟩
      · have hls' : (l == s.toList) = false := by
          rw [ByteArray.toList_eq, ← mk_beq, ba_beq]
          exact decide_eq_false hls
        clear he he_
        have HL := hid hval
        have HLS := hid hls
        clear hval
        go_wp2
        refine ⟨⟨seen.push e.born, ?_, ?_, hid ?_, hb2.alloc (by omega) _⟩, ?_⟩
        · rw [Below.heap_alloc _ _ _ (by omega)]
          exact hi2
        · rw [Below.heap_alloc _ _ _ (by omega)]
          exact hm2
        · intro x hx hc
          rw [contains_push] at hc
          rcases Bool.or_eq_true_iff.1 hc with h | h
          · exact HN.out x hx h
          · have hxe : x = e := born_inj hnd hx hev (by simpa using h)
            rw [hxe, HL.out]
            intro h
            injection h with h
            exact HLS.out (by simpa using h)
        · have hal : (w2.alloc (.cells #[.string ⟨l.toArray⟩] 113)).iterSeen r = seen.push e.born := by
            unfold World.iterSeen
            rw [Below.heap_alloc _ _ _ (by omega), hi2]
          rw [hal, hi4]
          exact hsh

/-! ### names -/
theorem nmB_word {l : By} (h : l ∈ wordsL) : nmB l = true := by unfold nmB; rw [decide_eq_true h]; rfl
theorem nmB_rune {l : By} (h : ¬ l ∈ wordsL) : nmB l = runeOk l := by unfold nmB; rw [decide_eq_false h]; rfl
theorem rn_brk {l : By} (h : ¬ Brk l) (hr : rn l = 65533) : wd l ≠ 1 := fun hw => h (Prod.ext hr hw)
set_option maxHeartbeats 4000000 in
theorem name_any (s : ByteArray) (w : World) (hT : Tabs w) : Calls Tryd.prog 58 #[.string s] w fun e w' => e = .returned (.bool (nmB s.data.toList)) ∧ Below w.heap.size w w' := by
  have CW := word_any s w
  by_cases hw : s.data.toList ∈ wordsL
  · rw [decide_eq_true hw] at CW
    rw [nmB_word hw]
    go_enter Tryd.func58, Tryd.ntmps58
    go_wp2_with fail
    refine CW.mono ?_
    rintro e w1 ⟨rfl, hb1⟩
    go_wp2
    go_ret
    exact ⟨rfl, hb1⟩
  · rw [decide_eq_false hw] at CW
    rw [nmB_rune hw]
    clear hw
    have CD := fun w1 (hb : Below w.heap.size w w1) => dec_any s w1 (tabs_on hT hb)
    have hlen := ba_len s
    have hwl := wd_le s.data.toList
    have hrb := rn_brk (l := s.data.toList)
    have hkb := brk_wd (l := s.data.toList)
    have hkr := brk_rn (l := s.data.toList)
    have hrl := rn_le s.data.toList
    unfold runeOk
    unfold rnG wdG at CD
    have CX := fun w1 => Width_any (rn s.data.toList : Int) w1
    clear hT
    generalize hl : s.data.toList = l at *
    have HL := hid hl
    clear hl
    by_cases h0 : l = []
    · have hz : (s.size : Int) = 0 := by rw [h0] at hlen; simp at hlen; omega
      rw [decide_eq_false (fun h => h.1 h0)]
      simp only [if_pos h0] at CD
      clear h0 CX hwl hrb hkb hkr hrl hlen
      go_enter Tryd.func58, Tryd.ntmps58
      go_wp2_with fail
      refine CW.mono ?_
      rintro e w1 ⟨rfl, hb1⟩
      have D := CD w1 hb1
      go_wp2_with fail
      refine D.mono ?_
      rintro e w2 ⟨rfl, hb2⟩
      go_wp2
      go_ret
      exact ⟨rfl, hb1.trans (hb2.mono hb1.size)⟩
    · simp only [if_neg h0] at CD
      have hw1 := wd_pos l
      have hwz := hwl h0
      clear hwl
      have hd : decide (l ≠ [] ∧ wd l = l.length ∧ ¬ Brk l ∧ rn l ≠ 32 ∧ rn l ≠ 43 ∧ wid (rn l : Int) ≠ 0) = decide (wd l = l.length ∧ ¬ Brk l ∧ rn l ≠ 32 ∧ rn l ≠ 43 ∧ wid (rn l : Int) ≠ 0) := by
        rw [decide_eq_decide]
        exact ⟨fun h => h.2, fun h => ⟨h0, h⟩⟩
      rw [hd]
      clear hd h0
      generalize wid (rn l : Int) = wi at *
      generalize rn l = r at *
      generalize wd l = n at *
      have hn0 : ((n : Int) == 0) = false := beq_eq_false_iff_ne.2 (by omega)
      by_cases h1 : n = l.length
      · have hn1 : decide (n < s.size) = false := decide_eq_false (by omega)
        have hn2 : decide ((n : Int) < (s.size : Int)) = false := decide_eq_false (by omega)
        by_cases h2 : Brk l
        · have hr1 : (r : Int) = 65533 := by have := hkr h2; omega
          have hr2 : (n : Int) = 1 := by have := hkb h2; omega
          rw [decide_eq_false (fun h => h.2.1 h2)]
          clear hrb hkb hkr hrl CX h2
          have hr3 : ((n : Int) == 1) = true := beq_iff_eq.2 hr2
          rw [hr1] at CD
          clear hr2
          have HN := hid h1
          have HLN := hid hlen
          clear h1 hlen
          go_enter Tryd.func58, Tryd.ntmps58
          go_wp2_with fail
          refine CW.mono ?_
          rintro e w1 ⟨rfl, hb1⟩
          have D := CD w1 hb1
          go_wp2_with fail
          refine D.mono ?_
          rintro e w2 ⟨rfl, hb2⟩
          go_wp2
          go_ret
          exact ⟨rfl, hb1.trans (hb2.mono hb1.size)⟩
        · have hr2 : (r : Int) = 65533 → ¬ ((n : Int) = 1) := fun h => by have := hrb h2 (by omega); omega
          have hE : ∀ b, b = decide (r ≠ 32 ∧ r ≠ 43 ∧ wi ≠ 0) → decide (n = l.length ∧ ¬ Brk l ∧ r ≠ 32 ∧ r ≠ 43 ∧ wi ≠ 0) = b := fun b hb => by
            rw [hb, decide_eq_decide]
            exact ⟨fun h => h.2.2, fun h => ⟨h1, h2, h⟩⟩
          have HE := hid hE
          have hcase : (r = 32 ∧ (r : Int) = 32) ∨ (r = 43 ∧ (r : Int) = 43) ∨ (r ≠ 32 ∧ r ≠ 43 ∧ wi = 0) ∨ (r ≠ 32 ∧ r ≠ 43 ∧ wi ≠ 0) := by omega
          have hrd : (r = 65533 ∧ ((r : Int) == 65533) = true ∧ ((n : Int) == 1) = false) ∨ (r ≠ 65533 ∧ ((r : Int) == 65533) = false) := by
            by_cases h : r = 65533
            · exact .inl ⟨h, beq_iff_eq.2 (by omega), beq_eq_false_iff_ne.2 (hr2 (by omega))⟩
            · exact .inr ⟨h, beq_eq_false_iff_ne.2 (by omega)⟩
          clear hrb hkb hkr hrl hE hr2
          have HB := hid h2
          have HN := hid h1
          clear h1 h2
          rcases hcase with ⟨e1, e2⟩ | ⟨e1, e2⟩ | ⟨e1, e2, e3⟩ | ⟨e1, e2, e3⟩
          all_goals
            rcases hrd with ⟨f1, f2, f3⟩ | ⟨f1, f2⟩
          · omega
          · rw [HE.out false (by rw [decide_eq_false (fun h => h.1 e1)])]
            rw [e2] at CD
            clear HE CX e1 e2 f1
            go_enter Tryd.func58, Tryd.ntmps58
            go_wp2_with fail
            refine CW.mono ?_
            rintro e w1 ⟨rfl, hb1⟩
            have D := CD w1 hb1
            go_wp2_with fail
            refine D.mono ?_
            rintro e w2 ⟨rfl, hb2⟩
            go_wp2
            go_ret
            exact ⟨rfl, hb1.trans (hb2.mono hb1.size)⟩
          · omega
          · rw [HE.out false (by rw [decide_eq_false (fun h => h.2.1 e1)])]
            rw [e2] at CD
            clear HE CX e1 e2 f1
            go_enter Tryd.func58, Tryd.ntmps58
            go_wp2_with fail
            refine CW.mono ?_
            rintro e w1 ⟨rfl, hb1⟩
            have D := CD w1 hb1
            go_wp2_with fail
            refine D.mono ?_
            rintro e w2 ⟨rfl, hb2⟩
            go_wp2
            go_ret
            exact ⟨rfl, hb1.trans (hb2.mono hb1.size)⟩
          all_goals
            first
              | rw [HE.out false (by rw [decide_eq_false (fun h => h.2.2 (by omega))])]; have hwd : decide ((0 : Int) < (wi : Int)) = false := decide_eq_false (by omega); have hwe : decide (0 < wi) = false := decide_eq_false (by omega)
              | rw [HE.out true (by rw [decide_eq_true ⟨e1, e2, by omega⟩])]; have hwd : decide ((0 : Int) < (wi : Int)) = true := decide_eq_true (by omega); have hwe : decide (0 < wi) = true := decide_eq_true (by omega)
            have g1 : ((r : Int) == 32) = false := beq_eq_false_iff_ne.2 (by omega)
            have g2 : ((r : Int) == 43) = false := beq_eq_false_iff_ne.2 (by omega)
            have g3 : ((r : Int) != 32) = true := by rw [bne, g1]; rfl
            have g4 : ((r : Int) != 43) = true := by rw [bne, g2]; rfl
            clear HE
            all_goals
              clear e1 e2 e3 f1
              go_enter Tryd.func58, Tryd.ntmps58
              go_wp2_with fail
              refine CW.mono ?_
              rintro e w1 ⟨rfl, hb1⟩
              have D := CD w1 hb1
              go_wp2_with fail
              refine D.mono ?_
              rintro e w2 ⟨rfl, hb2⟩
              have hb3 := hb1.trans (hb2.mono hb1.size)
              clear hb1 hb2 D
              go_wp2_with fail
              refine (CX w2).mono ?_
              rintro e w3 ⟨rfl, hb4⟩
              go_wp2
              go_ret
              exact ⟨rfl, hb3.trans (hb4.mono hb3.size)⟩
      · have hn1 : decide ((n : Int) < (s.size : Int)) = true := decide_eq_true (by omega)
        have hn2 : decide (n < s.size) = true := decide_eq_true (by omega)
        rw [decide_eq_false (fun h => h1 h.1)]
        clear hrb hkb hkr hrl CX
        go_enter Tryd.func58, Tryd.ntmps58
        go_wp2_with fail
        refine CW.mono ?_
        rintro e w1 ⟨rfl, hb1⟩
        have D := CD w1 hb1
        go_wp2_with fail
        refine D.mono ?_
        rintro e w2 ⟨rfl, hb2⟩
        go_wp2
        go_ret
        exact ⟨rfl, hb1.trans (hb2.mono hb1.size)⟩
end Go.Proofs.YtcfgpmmclijonaaDoor
