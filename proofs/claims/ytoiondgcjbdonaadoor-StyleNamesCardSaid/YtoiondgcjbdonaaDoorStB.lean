/- Layer 5: the walk of sort.symMerge_func: it merges two stretches of a row. (Printed by gen_b.py.) -/
import Derived.Test.YtoiondgcjbdonaaDoorStA
namespace Go.Proofs.YtoiondgcjbdonaaDoor
set_option linter.unusedVariables false
set_option linter.unusedSimpArgs false
set_option maxRecDepth 100000
open Go.RowKit Go.Shelf Go.Lib Go.Sort
variable {nn : Nat} {g : Nat} {lb : Array Value} {sf : Nat} {sb : Array Value} {key : Nat → Nat} {blk off : Nat} {d d' : Array Nat} {W W' W'' : World}

theorem half_cast (i j : Nat) : (((i + j) / 2 : Nat) : Int) = ((i : Int) + j) / 2 := by omega
theorem not_of_true {b : Bool} (h : b = true) : (!b) = false := by rw [h]; rfl
theorem not_of_false {b : Bool} (h : b = false) : (!b) = true := by rw [h]; rfl
/-- On a stretch in order the numbers below one are those in front. -/
theorem Srt.below {a b : Nat} (s : Srt key d a b) {x i j : Nat} (h1 : a ≤ i) (h2 : i ≤ j) (h3 : j < b) (hl : lk key d[j]! x = true) : lk key d[i]! x = true := by
  by_cases h : i = j
  · subst h; exact hl
  · have := s i j h1 (by omega) h3
    rw [lk_true] at hl ⊢; unfold Rk at this; omega
theorem Srt.above {a b : Nat} (s : Srt key d a b) {x i j : Nat} (h1 : a ≤ i) (h2 : i ≤ j) (h3 : j < b) (hl : lk key d[i]! x = false) : lk key d[j]! x = false := by
  by_cases h : i = j
  · subst h; exact hl
  · have := s i j h1 (by omega) h3
    rw [lk_false] at hl ⊢; unfold Rk at this; omega
theorem Srt.below' {a b : Nat} (s : Srt key d a b) {x i j : Nat} (h1 : a ≤ i) (h2 : i ≤ j) (h3 : j < b) (hl : lk key x d[j]! = false) : lk key x d[i]! = false := by
  by_cases h : i = j
  · subst h; exact hl
  · have := s i j h1 (by omega) h3
    rw [lk_false] at hl ⊢; unfold Rk at this; omega
theorem Srt.above' {a b : Nat} (s : Srt key d a b) {x i j : Nat} (h1 : a ≤ i) (h2 : i ≤ j) (h3 : j < b) (hl : lk key x d[i]! = true) : lk key x d[j]! = true := by
  by_cases h : i = j
  · subst h; exact hl
  · have := s i j h1 (by omega) h3
    rw [lk_true] at hl ⊢; unfold Rk at this; omega

set_option maxHeartbeats 4000000 in
set_option maxRecDepth 100000 in
theorem sym_left (F : Fam nn g lb sf sb key blk off d W) (a b : Nat) (t : Two key d a (a + 1) b) (h2 : a + 1 < b) :
    Calls Tryd.prog 69 #[.agg #[.func (.func g) #[] lb, .func (.func sf) #[] sb], .int .i64 a, .int .i64 ((a : Int) + 1), .int .i64 b] W fun e w' =>
      e = .returned (.tuple #[]) ∧ ∃ d', Mrg key d d' a b ∧ SW (encN nn) W blk off d' w' := by
  have F1 := F.box (.cells #[.func (.func g) #[] lb, .func (.func sf) #[] sb] 79)
  have S1 := F.sw.alloc (.cells #[.func (.func g) #[] lb, .func (.func sf) #[] sb] 79)
  have hsz := F.sz
  have hlt := F.lt
  have eg := F.eg
  have hbs := t.bs
  have hma : (a : Int) + 1 - (a : Int) = 1 := by omega
  go_enter Tryd.func69, Tryd.ntmps69
  go_wp2
  go_loopg [8, 9] (b - a) (fun k vi vj wr => ∃ (i j : Nat), vi = .int .i64 i ∧ vj = .int .i64 j ∧ a + 1 ≤ i ∧ i ≤ j ∧ j ≤ b ∧ j - i ≤ k ∧ SW (encN nn) (W.alloc (.cells #[.func (.func g) #[] lb, .func (.func sf) #[] sb] 79)) blk off d wr ∧
    Hid ((∀ h, a + 1 ≤ h → h < i → lk key d[h]! d[a]! = true) ∧ (∀ h, j ≤ h → h < b → lk key d[h]! d[a]! = false)))
  case atStart => exact ⟨a + 1, b, by go_num, rfl, by omega, by omega, by omega, by omega, F1.sw, hid ⟨fun h g1 g2 => by omega, fun h g1 g2 => by omega⟩⟩
  case round =>
    obtain ⟨i, j, rfl, rfl, hi, hij, hj, hk, hw, H⟩ := hrel
    have Fk := F1.on hw rfl
    have c0 : wr.cell? ⟨W.heap.size, 0, none⟩ = some (.func (.func g) #[] lb) := by
      rw [sw_cell hw (by simp) (by omega)]; simp
    by_cases hlt2 : i < j
    · have hiz : (i : Int) < (j : Int) := by omega
      have hl := Fk.ask (i := (i + j) / 2) (j := a) (by omega) (by omega)
      rw [half_cast] at hl
      have A : Hid _ := hid (⟨hw, F1.lt⟩ : _ ∧ _)
      cases hv : lk key d[(i + j) / 2]! d[a]! with
      | true =>
        rw [hv] at hl
        clear Fk F1 S1 F hw
        go_wp2_with (go_at_fn g; refine hl.mono ?_; rintro e w1 ⟨rfl, hw1⟩)
        go_roundg (j - ((i + j) / 2 + 1))
        case measure => omega
        case rel => exact ⟨(i + j) / 2 + 1, j, by go_num, rfl, by omega, by omega, hj, by omega, sw_trans A.out.2 A.out.1 hw1 rfl,
          hid ⟨fun h g1 g2 => t.right.below g1 (by omega) (by omega) hv, H.out.2⟩⟩
      | false =>
        rw [hv] at hl
        clear Fk F1 S1 F hw
        go_wp2_with (go_at_fn g; refine hl.mono ?_; rintro e w1 ⟨rfl, hw1⟩)
        go_roundg ((i + j) / 2 - i)
        case measure => omega
        case rel => exact ⟨i, (i + j) / 2, rfl, by go_num, by omega, by omega, by omega, by omega, sw_trans A.out.2 A.out.1 hw1 rfl,
          hid ⟨H.out.1, fun h g1 g2 => t.right.above (by omega) g1 g2 hv⟩⟩
    · have hiz : ¬ (i : Int) < (j : Int) := by omega
      obtain rfl : i = j := by omega
      have hF : ∀ x wx, x.size = d.size → SW (encN nn) (W.alloc (.cells #[.func (.func g) #[] lb, .func (.func sf) #[] sb] 79)) blk off x wx → Fam nn g lb sf sb key blk off x wx := fun x wx hs h => F1.on h hs
      have A : Hid _ := hid (⟨hF, F1.lt, S1, F.lt⟩ : _ ∧ _ ∧ _ ∧ _)
      clear Fk F1 S1 F hF
      go_wp2
      go_loopg [11] (i - a) (fun k vk wx => ∃ (q : Nat) (dk : Array Nat), vk = .int .i64 q ∧ a ≤ q ∧ q + 1 ≤ i ∧ i - q ≤ k ∧ Rot d dk a (a + 1) (q + 1) ∧ SW (encN nn) (W.alloc (.cells #[.func (.func g) #[] lb, .func (.func sf) #[] sb] 79)) blk off dk wx)
      case atStart => exact ⟨a, d, rfl, by omega, by omega, by omega, Rot.refl_right (by omega), hw⟩
      case round =>
        clear hw
        obtain ⟨q, dk, rfl, hq1, hq2, hk, hr, hw2⟩ := hrel
        have hsk := hr.1
        have Fq := A.out.1 _ _ hsk hw2
        have hsn := hw2.swap A.out.2.1
        have c1 : wr.cell? ⟨W.heap.size, 1, none⟩ = some (.func (.func sf) #[] sb) := by
          rw [sw_cell hw2 (by simp) (by omega)]; simp
        by_cases hqi : q + 1 < i
        · have hqz : (q : Int) < (i : Int) - 1 := by omega
          have hx := Fq.swap (i := q) (j := q + 1) (by omega) (by omega)
          rw [show ((q + 1 : Nat) : Int) = (q : Int) + 1 by omega] at hx
          have B : Hid _ := hid (⟨hsn q (q + 1) (by omega) (by omega), rot_up hr hq1 (by omega)⟩ : _ ∧ _)
          clear hsn hr hw2 Fq
          go_wp2
          go_roundg (i - (q + 1))
          case measure => omega
          case rel => exact ⟨q + 1, _, by simp, by omega, by omega, by omega, B.out.2, B.out.1⟩
        · have hqz : ¬ (q : Int) < (i : Int) - 1 := by omega
          have hqe : q + 1 = i := by omega
          clear hsn Fq
          go_wp2
          try simp only [Exit.inBlock, Exit.then]
          refine bodyPost_ret (results_none rfl _ _ _) rfl ?_
          exact ⟨rfl, dk, t.one_left (by omega) hj H.out.1 H.out.2 (hqe ▸ hr), sw_trans A.out.2.2.2 A.out.2.2.1 hw2 hsk⟩

set_option maxHeartbeats 4000000 in
set_option maxRecDepth 100000 in
theorem sym_right (F : Fam nn g lb sf sb key blk off d W) (a m : Nat) (t : Two key d a m (m + 1)) (h2 : a + 1 < m) :
    Calls Tryd.prog 69 #[.agg #[.func (.func g) #[] lb, .func (.func sf) #[] sb], .int .i64 a, .int .i64 m, .int .i64 ((m : Int) + 1)] W fun e w' =>
      e = .returned (.tuple #[]) ∧ ∃ d', Mrg key d d' a (m + 1) ∧ SW (encN nn) W blk off d' w' := by
  have F1 := F.box (.cells #[.func (.func g) #[] lb, .func (.func sf) #[] sb] 79)
  have S1 := F.sw.alloc (.cells #[.func (.func g) #[] lb, .func (.func sf) #[] sb] 79)
  have hsz := F.sz
  have hlt := F.lt
  have eg := F.eg
  have hbs := t.bs
  have hma : ¬ ((m : Int) - (a : Int) = 1) := by omega
  have hmb : (m : Int) + 1 - (m : Int) = 1 := by omega
  go_enter Tryd.func69, Tryd.ntmps69
  go_wp2
  rw [show ((m : Int) - (a : Int) == 1) = false by simp; omega]
  go_loopg [12, 13] (m - a) (fun k vi vj wr => ∃ (i j : Nat), vi = .int .i64 i ∧ vj = .int .i64 j ∧ a ≤ i ∧ i ≤ j ∧ j ≤ m ∧ j - i ≤ k ∧ SW (encN nn) (W.alloc (.cells #[.func (.func g) #[] lb, .func (.func sf) #[] sb] 79)) blk off d wr ∧
    Hid ((∀ h, a ≤ h → h < i → lk key d[m]! d[h]! = false) ∧ (∀ h, j ≤ h → h < m → lk key d[m]! d[h]! = true)))
  case atStart => exact ⟨a, m, rfl, rfl, by omega, by omega, by omega, by omega, F1.sw, hid ⟨fun h g1 g2 => by omega, fun h g1 g2 => by omega⟩⟩
  case round =>
    clear hma hmb
    obtain ⟨i, j, rfl, rfl, hi, hij, hj, hk, hw, H⟩ := hrel
    have Fk := F1.on hw rfl
    have c0 : wr.cell? ⟨W.heap.size, 0, none⟩ = some (.func (.func g) #[] lb) := by
      rw [sw_cell hw (by simp) (by omega)]; simp
    by_cases hlt2 : i < j
    · have hiz : (i : Int) < (j : Int) := by omega
      have hl := Fk.ask (i := m) (j := (i + j) / 2) (by omega) (by omega)
      rw [half_cast] at hl
      have A : Hid _ := hid (⟨hw, F1.lt⟩ : _ ∧ _)
      cases hv : lk key d[m]! d[(i + j) / 2]! with
      | false =>
        rw [hv] at hl
        clear Fk F1 S1 F hw
        go_wp2_with (go_at_fn g; refine hl.mono ?_; rintro e w1 ⟨rfl, hw1⟩)
        go_roundg (j - ((i + j) / 2 + 1))
        case measure => omega
        case rel => exact ⟨(i + j) / 2 + 1, j, by go_num, rfl, by omega, by omega, hj, by omega, sw_trans A.out.2 A.out.1 hw1 rfl,
          hid ⟨fun h g1 g2 => t.left.below' g1 (by omega) (by omega) hv, H.out.2⟩⟩
      | true =>
        rw [hv] at hl
        clear Fk F1 S1 F hw
        go_wp2_with (go_at_fn g; refine hl.mono ?_; rintro e w1 ⟨rfl, hw1⟩)
        go_roundg ((i + j) / 2 - i)
        case measure => omega
        case rel => exact ⟨i, (i + j) / 2, rfl, by go_num, by omega, by omega, by omega, by omega, sw_trans A.out.2 A.out.1 hw1 rfl,
          hid ⟨H.out.1, fun h g1 g2 => t.left.above' (by omega) g1 g2 hv⟩⟩
    · have hiz : ¬ (i : Int) < (j : Int) := by omega
      obtain rfl : i = j := by omega
      have hF : ∀ x wx, x.size = d.size → SW (encN nn) (W.alloc (.cells #[.func (.func g) #[] lb, .func (.func sf) #[] sb] 79)) blk off x wx → Fam nn g lb sf sb key blk off x wx := fun x wx hs h => F1.on h hs
      have A : Hid _ := hid (⟨hF, F1.lt, S1, F.lt⟩ : _ ∧ _ ∧ _ ∧ _)
      clear Fk F1 S1 F hF
      go_wp2
      go_loopg [15] (m - i) (fun k vk wx => ∃ (q : Nat) (dk : Array Nat), vk = .int .i64 q ∧ i ≤ q ∧ q ≤ m ∧ q - i ≤ k ∧ Rot d dk q m (m + 1) ∧ SW (encN nn) (W.alloc (.cells #[.func (.func g) #[] lb, .func (.func sf) #[] sb] 79)) blk off dk wx)
      case atStart => exact ⟨m, d, rfl, by omega, by omega, by omega, Rot.refl_left (by omega), hw⟩
      case round =>
        clear hw
        obtain ⟨q, dk, rfl, hq1, hq2, hk, hr, hw2⟩ := hrel
        have hsk := hr.1
        have Fq := A.out.1 _ _ hsk hw2
        have hsn := hw2.swap A.out.2.1
        have c1 : wr.cell? ⟨W.heap.size, 1, none⟩ = some (.func (.func sf) #[] sb) := by
          rw [sw_cell hw2 (by simp) (by omega)]; simp
        by_cases hqi : i < q
        · have hqz : (i : Int) < (q : Int) := by omega
          have hx := Fq.swap (i := q) (j := q - 1) (by omega) (by omega)
          rw [show ((q - 1 : Nat) : Int) = (q : Int) - 1 by omega] at hx
          have hdn := rot_down (d := d) (d' := dk) (m := m) (k := q - 1) (by rw [show q - 1 + 1 = q by omega]; exact hr) (by omega) (by omega)
          rw [show q - 1 + 1 = q by omega] at hdn
          have B : Hid _ := hid (⟨hsn q (q - 1) (by omega) (by omega), hdn⟩ : _ ∧ _)
          clear hdn
          clear hsn hr hw2 Fq
          go_wp2
          go_roundg (q - 1 - i)
          case measure => omega
          case rel => exact ⟨q - 1, _, by go_num, by omega, by omega, by omega, B.out.2, B.out.1⟩
        · have hqz : ¬ (i : Int) < (q : Int) := by omega
          obtain rfl : q = i := by omega
          clear hsn Fq
          go_wp2
          try simp only [Exit.inBlock, Exit.then]
          refine bodyPost_ret (results_none rfl _ _ _) rfl ?_
          exact ⟨rfl, dk, t.one_right hi hj H.out.1 H.out.2 hr, sw_trans A.out.2.2.2 A.out.2.2.1 hw2 hsk⟩

/-- What a merge of stretches leaves. -/
def SymIs (nn : Nat) (g : Nat) (lb : Array Value) (sf : Nat) (sb : Array Value) (key : Nat → Nat) (blk off : Nat) (a m b : Nat) (d : Array Nat) (W : World) : Prop :=
    Calls Tryd.prog 69 #[.agg #[.func (.func g) #[] lb, .func (.func sf) #[] sb], .int .i64 ((a : Nat) : Int), .int .i64 ((m : Nat) : Int), .int .i64 ((b : Nat) : Int)] W fun e w' =>
      e = .returned (.tuple #[]) ∧ ∃ d', Mrg key d d' a b ∧ SW (encN nn) W blk off d' w'

set_option maxHeartbeats 4000000 in
set_option maxRecDepth 100000 in
theorem sym_mid1 (F : Fam nn g lb sf sb key blk off d W) (a m b M : Nat) (hM1 : 2 * M ≤ a + b) (hM2 : a + b ≤ 2 * M + 1) (hmM : M < m) (t : Two key d a m b) (h1 : a + 1 < m) (h2 : m + 1 < b)
    (IH : ∀ (a' m' b' : Nat) (d' : Array Nat) (W' : World), b' - a' < b - a → Fam nn g lb sf sb key blk off d' W' → Two key d' a' m' b' → a' < m' → m' < b' → SymIs nn g lb sf sb key blk off a' m' b' d' W') : SymIs nn g lb sf sb key blk off a m b d W := by
  unfold SymIs
  have F1 := F.box (.cells #[.func (.func g) #[] lb, .func (.func sf) #[] sb] 79)
  have S1 := F.sw.alloc (.cells #[.func (.func g) #[] lb, .func (.func sf) #[] sb] 79)
  have hsz := F.sz
  have hlt := F.lt
  have eg := F.eg
  have hbs := t.bs
  have hma : ¬ ((m : Int) - (a : Int) = 1) := by omega
  have hmb : ¬ ((b : Int) - (m : Int) = 1) := by omega
  have hMm : ((a : Int) + b) / 2 < (m : Int) := by omega
  go_enter Tryd.func69, Tryd.ntmps69
  go_wp2
  rw [show ((a : Int) + b) / 2 = (M : Int) by omega]
  try rw [show ((m : Int) - (a : Int) == 1) = false by simp; omega]
  try rw [show ((b : Int) - (m : Int) == 1) = false by simp; omega]
  clear hma hmb hMm
  go_loopg [18, 19] (b - a) (fun k vi vj wr => ∃ (i j : Nat), vi = .int .i64 i ∧ vj = .int .i64 j ∧ (M + m - b) ≤ i ∧ i ≤ j ∧ j ≤ M ∧ j - i ≤ k ∧ SW (encN nn) (W.alloc (.cells #[.func (.func g) #[] lb, .func (.func sf) #[] sb] 79)) blk off d wr ∧
    Hid (((M + m - b) < i → lk key d[M + m - 1 - (i - 1)]! d[i - 1]! = false) ∧ (j < M → lk key d[M + m - 1 - j]! d[j]! = true)))
  case atStart => exact ⟨(M + m - b), M, by go_num, by go_num, by omega, by omega, by omega, by omega, F1.sw, hid ⟨fun g1 => by omega, fun g1 => by omega⟩⟩
  case round =>
    obtain ⟨i, j, rfl, rfl, hi, hij, hj, hk, hw, H⟩ := hrel
    have Fk := F1.on hw rfl
    have c0 : wr.cell? ⟨W.heap.size, 0, none⟩ = some (.func (.func g) #[] lb) := by
      rw [sw_cell hw (by simp) (by omega)]; simp
    by_cases hlt2 : i < j
    · have hiz : (i : Int) < (j : Int) := by omega
      have hl := Fk.ask (i := M + m - 1 - (i + j) / 2) (j := (i + j) / 2) (by omega) (by omega)
      rw [show ((M + m - 1 - (i + j) / 2 : Nat) : Int) = (M : Int) + m - 1 - ((i : Int) + j) / 2 by omega, half_cast] at hl
      have A : Hid _ := hid (⟨hw, F1.lt⟩ : _ ∧ _)
      cases hv : lk key d[M + m - 1 - (i + j) / 2]! d[(i + j) / 2]! with
      | false =>
        rw [hv] at hl
        clear Fk F1 S1 F hw IH
        go_wp2_with (go_at_fn g; refine hl.mono ?_; rintro e w1 ⟨rfl, hw1⟩)
        go_roundg (j - ((i + j) / 2 + 1))
        case measure => omega
        case rel => exact ⟨(i + j) / 2 + 1, j, by go_num, rfl, by omega, by omega, hj, by omega, sw_trans A.out.2 A.out.1 hw1 rfl,
          hid ⟨fun g1 => by rw [show (i + j) / 2 + 1 - 1 = (i + j) / 2 by omega]; exact hv, H.out.2⟩⟩
      | true =>
        rw [hv] at hl
        clear Fk F1 S1 F hw IH
        go_wp2_with (go_at_fn g; refine hl.mono ?_; rintro e w1 ⟨rfl, hw1⟩)
        go_roundg ((i + j) / 2 - i)
        case measure => omega
        case rel => exact ⟨i, (i + j) / 2, rfl, by go_num, by omega, by omega, by omega, by omega, sw_trans A.out.2 A.out.1 hw1 rfl,
          hid ⟨H.out.1, fun g1 => hv⟩⟩
    · have hiz : ¬ (i : Int) < (j : Int) := by omega
      obtain ⟨s, hsi, rfl⟩ : ∃ s, s = i ∧ s = j := ⟨i, rfl, by omega⟩
      subst hsi
      have MD : Mid key d a s m (M + m - s) b := t.mid (lo := M + m - b) (hi := M) (by omega) (by omega) (.inl ⟨hmM, rfl, rfl⟩) hi hj H.out.1 H.out.2
      have hF : ∀ x wx, x.size = d.size → SW (encN nn) (W.alloc (.cells #[.func (.func g) #[] lb, .func (.func sf) #[] sb] 79)) blk off x wx → Fam nn g lb sf sb key blk off x wx := fun x wx hs h => F1.on h hs
      have A : Hid _ := hid (⟨hF, F1.lt, S1, F.lt, hw⟩ : _ ∧ _ ∧ _ ∧ _ ∧ _)
      have A0 := A
      have MD0 : Hid _ := hid MD
      have IH0 : Hid _ := hid IH
      have F0 := F.lt
      clear Fk F1 S1 F hF hw
      rcases Nat.lt_or_ge s M with x2 | x2
      · have z1 : (s : Int) < (m : Int) := by omega
        have z2 : (m : Int) < (M : Int) + m - s := by omega
        have z2' : (s : Int) < (M : Int) := by omega
        have z3' : (M : Int) < (M : Int) + m - s := by omega
        rcases Nat.lt_or_ge a s with x3 | x3
        · have z3 : (a : Int) < (s : Int) := by omega
          rcases Nat.lt_or_ge (M + m - s) b with x4 | x4
          · have z4 : (M : Int) + m - s < (b : Int) := by omega
            have bx := sw_box F0 A.out.2.2.2.2
            have b0 := bx.1
            have b1 := bx.2
            have hc1 := rotate_any (A.out.1 d wr rfl A.out.2.2.2.2) s m (M + m - s) (by omega) (by omega) (by omega)
            rw [show (((M + m - s) : Nat) : Int) = (M : Int) + m - s by omega] at hc1
            clear bx IH MD A
            go_wp2_with (go_at_call 74; refine hc1.mono ?_; rintro e w1 ⟨rfl, d1, hr, hw1⟩; have hw1' := sw_trans A0.out.2.1 A0.out.2.2.2.2 hw1 hr.1; have bx := sw_box F0 hw1'; have e0 := bx.1; have e1 := bx.2)
            have hs1 := hr.1
            have lo := MD0.out.low t hr
            have hi := MD0.out.high t hr
            rw [show s + ((M + m - s) - m) = M by omega] at lo hi
            have hc2 := IH0.out a s M d1 w1 (by omega) (A0.out.1 _ _ hs1 hw1') lo (by omega) (by omega)
            unfold SymIs at hc2
            have C2 : Hid _ := hid (⟨hr, hi, hw1'⟩ : _ ∧ _ ∧ _)
            clear hr hi lo hw1' hw1
            have tok : Hid True := hid trivial
            go_wp2_with (go_at_call 69; clear tok; refine hc2.mono ?_; rintro e w2 ⟨rfl, d2, hm1, hw2⟩; have hw2' := sw_trans A0.out.2.1 C2.out.2.2 hw2 hm1.size; have by2 := sw_box F0 hw2'; have e2 := by2.1; have e3 := by2.2)
            have hr := C2.out.1
            have hi := C2.out.2.1
            have hs2 : d2.size = d.size := by rw [hm1.size, hs1]
            have hi2 := hi.out hm1.out (by omega) hm1.size
            have hc3 := IH0.out M (M + m - s) b d2 w2 (by omega) (A0.out.1 _ _ hs2 hw2') hi2 (by omega) (by omega)
            unfold SymIs at hc3
            rw [show (((M + m - s) : Nat) : Int) = (M : Int) + m - s by omega] at hc3
            have C3 : Hid _ := hid (⟨hr, hm1, hw2'⟩ : _ ∧ _ ∧ _)
            clear hr hi hi2 hm1 hw2' hw2
            go_wp2_with (go_at_call 69; refine hc3.mono ?_; rintro e w3 ⟨rfl, d3, hm2, hw3⟩)
            have hr := C3.out.1
            have hm1 := C3.out.2.1
            have hw3' := sw_trans A0.out.2.1 C3.out.2.2 hw3 hm2.size
            have hs3 : d3.size = d.size := by first | exact hm2.size | (rw [hm2.size]; exact hs2)
            go_end0
            exact ⟨rfl, d3, MD0.out.join t hr (by rw [show s + ((M + m - s) - m) = M by omega]; exact hm1) (by rw [show s + ((M + m - s) - m) = M by omega]; exact hm2), sw_trans A0.out.2.2.2.1 A0.out.2.2.1 hw3' hs3⟩
          · have z4 : ¬ (M : Int) + m - s < (b : Int) := by omega
            have bx := sw_box F0 A.out.2.2.2.2
            have b0 := bx.1
            have b1 := bx.2
            have hc1 := rotate_any (A.out.1 d wr rfl A.out.2.2.2.2) s m (M + m - s) (by omega) (by omega) (by omega)
            rw [show (((M + m - s) : Nat) : Int) = (M : Int) + m - s by omega] at hc1
            clear bx IH MD A
            go_wp2_with (go_at_call 74; refine hc1.mono ?_; rintro e w1 ⟨rfl, d1, hr, hw1⟩; have hw1' := sw_trans A0.out.2.1 A0.out.2.2.2.2 hw1 hr.1; have bx := sw_box F0 hw1'; have e0 := bx.1; have e1 := bx.2)
            have hs1 := hr.1
            have lo := MD0.out.low t hr
            have hi := MD0.out.high t hr
            rw [show s + ((M + m - s) - m) = M by omega] at lo hi
            have hc2 := IH0.out a s M d1 w1 (by omega) (A0.out.1 _ _ hs1 hw1') lo (by omega) (by omega)
            unfold SymIs at hc2
            have C2 : Hid _ := hid (⟨hr, hi, hw1'⟩ : _ ∧ _ ∧ _)
            clear hr hi lo hw1' hw1
            have tok : Hid True := hid trivial
            go_wp2_with (go_at_call 69; clear tok; refine hc2.mono ?_; rintro e w2 ⟨rfl, d2, hm1, hw2⟩; have hw2' := sw_trans A0.out.2.1 C2.out.2.2 hw2 hm1.size; have by2 := sw_box F0 hw2'; have e2 := by2.1; have e3 := by2.2)
            have hr := C2.out.1
            have hi := C2.out.2.1
            have hs2 : d2.size = d.size := by rw [hm1.size, hs1]
            have hi2 := hi.out hm1.out (by omega) hm1.size
            have hm2 : Mrg key d2 d2 M b := by have q := hi2; rw [show M + m - s = b by omega] at q; exact q.mrg_right
            have hw3' := hw2'
            have K : Hid _ := hid (⟨hr, hm1, hm2, hw3'⟩ : _ ∧ _ ∧ _ ∧ _)
            clear hi hi2 hr hm1 hm2 hw2' hw3'
            try go_wp2
            have hr := K.out.1
            have hm1 := K.out.2.1
            have hm2 := K.out.2.2.1
            have hw3' := K.out.2.2.2
            go_end0
            exact ⟨rfl, d2, MD0.out.join t hr (by rw [show s + ((M + m - s) - m) = M by omega]; exact hm1) (by rw [show s + ((M + m - s) - m) = M by omega]; exact hm2), sw_trans A0.out.2.2.2.1 A0.out.2.2.1 hw3' hs2⟩
        · have z3 : ¬ (a : Int) < (s : Int) := by omega
          rcases Nat.lt_or_ge (M + m - s) b with x4 | x4
          · exfalso; omega
          · have z4 : ¬ (M : Int) + m - s < (b : Int) := by omega
            have bx := sw_box F0 A.out.2.2.2.2
            have b0 := bx.1
            have b1 := bx.2
            have hc1 := rotate_any (A.out.1 d wr rfl A.out.2.2.2.2) s m (M + m - s) (by omega) (by omega) (by omega)
            rw [show (((M + m - s) : Nat) : Int) = (M : Int) + m - s by omega] at hc1
            clear bx IH MD A
            go_wp2_with (go_at_call 74; refine hc1.mono ?_; rintro e w1 ⟨rfl, d1, hr, hw1⟩; have hw1' := sw_trans A0.out.2.1 A0.out.2.2.2.2 hw1 hr.1; have bx := sw_box F0 hw1'; have e0 := bx.1; have e1 := bx.2)
            have hs1 := hr.1
            have lo := MD0.out.low t hr
            have hi := MD0.out.high t hr
            rw [show s + ((M + m - s) - m) = M by omega] at lo hi
            have hm1 : Mrg key d1 d1 a M := by have q := lo; rw [show s = a by omega] at q; exact q.mrg_left
            skip
            have hw2' := hw1'
            have hi2 := hi.out hm1.out (by omega) hm1.size
            have hm2 : Mrg key d1 d1 M b := by have q := hi2; rw [show M + m - s = b by omega] at q; exact q.mrg_right
            have hw3' := hw2'
            have K : Hid _ := hid (⟨hr, hm1, hm2, hw3'⟩ : _ ∧ _ ∧ _ ∧ _)
            clear hi hi2 lo hr hm1 hm2 hw1' hw2' hw3'
            try go_wp2
            have hr := K.out.1
            have hm1 := K.out.2.1
            have hm2 := K.out.2.2.1
            have hw3' := K.out.2.2.2
            go_end0
            exact ⟨rfl, d1, MD0.out.join t hr (by rw [show s + ((M + m - s) - m) = M by omega]; exact hm1) (by rw [show s + ((M + m - s) - m) = M by omega]; exact hm2), sw_trans A0.out.2.2.2.1 A0.out.2.2.1 hw3' hs1⟩
      · obtain rfl : s = M := by omega
        have z1 : (s : Int) < (m : Int) := by omega
        have z2 : ¬ (m : Int) < (s : Int) + m - s := by omega
        have z2' : ¬ (s : Int) < (s : Int) := by omega
        have z3' : (s : Int) < (s : Int) + m - s := by omega
        have z4 : (s : Int) + m - s < (b : Int) := by omega
        have hr : Rot d d s m (s + m - s) := by rw [show s + m - s = m by omega]; exact Rot.refl_right (by omega)
        have hw1' := A.out.2.2.2.2
        clear A MD IH
        have lo := MD0.out.low t hr
        have hi := MD0.out.high t hr
        rw [show s + ((s + m - s) - m) = s by omega] at lo hi
        have hm1 : Mrg key d d a s := by exact lo.mrg_right
        skip
        have hw2' := hw1'
        have hi2 := hi.out hm1.out (by omega) hm1.size
        have bx := sw_box F0 hw2'
        have b0 := bx.1
        have b1 := bx.2
        have hc3 := IH0.out s (s + m - s) b d wr (by omega) (A0.out.1 _ _ rfl hw2') hi2 (by omega) (by omega)
        unfold SymIs at hc3
        rw [show (((s + m - s) : Nat) : Int) = (s : Int) + m - s by omega] at hc3
        have C3 : Hid _ := hid (⟨hr, hm1, hw2'⟩ : _ ∧ _ ∧ _)
        clear hr hi hi2 hm1 hw2' lo hw1'
        go_wp2_with (go_at_call 69; refine hc3.mono ?_; rintro e w3 ⟨rfl, d3, hm2, hw3⟩)
        have hr := C3.out.1
        have hm1 := C3.out.2.1
        have hw3' := sw_trans A0.out.2.1 C3.out.2.2 hw3 hm2.size
        have hs3 : d3.size = d.size := by first | exact hm2.size | (rw [hm2.size]; exact rfl)
        go_end0
        exact ⟨rfl, d3, MD0.out.join t hr (by rw [show s + ((s + m - s) - m) = s by omega]; exact hm1) (by rw [show s + ((s + m - s) - m) = s by omega]; exact hm2), sw_trans A0.out.2.2.2.1 A0.out.2.2.1 hw3' hs3⟩

set_option maxHeartbeats 4000000 in
set_option maxRecDepth 100000 in
theorem sym_mid2 (F : Fam nn g lb sf sb key blk off d W) (a m b M : Nat) (hM1 : 2 * M ≤ a + b) (hM2 : a + b ≤ 2 * M + 1) (hmM : m ≤ M) (t : Two key d a m b) (h1 : a + 1 < m) (h2 : m + 1 < b)
    (IH : ∀ (a' m' b' : Nat) (d' : Array Nat) (W' : World), b' - a' < b - a → Fam nn g lb sf sb key blk off d' W' → Two key d' a' m' b' → a' < m' → m' < b' → SymIs nn g lb sf sb key blk off a' m' b' d' W') : SymIs nn g lb sf sb key blk off a m b d W := by
  unfold SymIs
  have F1 := F.box (.cells #[.func (.func g) #[] lb, .func (.func sf) #[] sb] 79)
  have S1 := F.sw.alloc (.cells #[.func (.func g) #[] lb, .func (.func sf) #[] sb] 79)
  have hsz := F.sz
  have hlt := F.lt
  have eg := F.eg
  have hbs := t.bs
  have hma : ¬ ((m : Int) - (a : Int) = 1) := by omega
  have hmb : ¬ ((b : Int) - (m : Int) = 1) := by omega
  have hMm : ¬ ((a : Int) + b) / 2 < (m : Int) := by omega
  go_enter Tryd.func69, Tryd.ntmps69
  go_wp2
  rw [show ((a : Int) + b) / 2 = (M : Int) by omega]
  try rw [show ((m : Int) - (a : Int) == 1) = false by simp; omega]
  try rw [show ((b : Int) - (m : Int) == 1) = false by simp; omega]
  clear hma hmb hMm
  go_loopg [18, 19] (b - a) (fun k vi vj wr => ∃ (i j : Nat), vi = .int .i64 i ∧ vj = .int .i64 j ∧ a ≤ i ∧ i ≤ j ∧ j ≤ m ∧ j - i ≤ k ∧ SW (encN nn) (W.alloc (.cells #[.func (.func g) #[] lb, .func (.func sf) #[] sb] 79)) blk off d wr ∧
    Hid ((a < i → lk key d[M + m - 1 - (i - 1)]! d[i - 1]! = false) ∧ (j < m → lk key d[M + m - 1 - j]! d[j]! = true)))
  case atStart => exact ⟨a, m, by go_num, by go_num, by omega, by omega, by omega, by omega, F1.sw, hid ⟨fun g1 => by omega, fun g1 => by omega⟩⟩
  case round =>
    obtain ⟨i, j, rfl, rfl, hi, hij, hj, hk, hw, H⟩ := hrel
    have Fk := F1.on hw rfl
    have c0 : wr.cell? ⟨W.heap.size, 0, none⟩ = some (.func (.func g) #[] lb) := by
      rw [sw_cell hw (by simp) (by omega)]; simp
    by_cases hlt2 : i < j
    · have hiz : (i : Int) < (j : Int) := by omega
      have hl := Fk.ask (i := M + m - 1 - (i + j) / 2) (j := (i + j) / 2) (by omega) (by omega)
      rw [show ((M + m - 1 - (i + j) / 2 : Nat) : Int) = (M : Int) + m - 1 - ((i : Int) + j) / 2 by omega, half_cast] at hl
      have A : Hid _ := hid (⟨hw, F1.lt⟩ : _ ∧ _)
      cases hv : lk key d[M + m - 1 - (i + j) / 2]! d[(i + j) / 2]! with
      | false =>
        rw [hv] at hl
        clear Fk F1 S1 F hw IH
        go_wp2_with (go_at_fn g; refine hl.mono ?_; rintro e w1 ⟨rfl, hw1⟩)
        go_roundg (j - ((i + j) / 2 + 1))
        case measure => omega
        case rel => exact ⟨(i + j) / 2 + 1, j, by go_num, rfl, by omega, by omega, hj, by omega, sw_trans A.out.2 A.out.1 hw1 rfl,
          hid ⟨fun g1 => by rw [show (i + j) / 2 + 1 - 1 = (i + j) / 2 by omega]; exact hv, H.out.2⟩⟩
      | true =>
        rw [hv] at hl
        clear Fk F1 S1 F hw IH
        go_wp2_with (go_at_fn g; refine hl.mono ?_; rintro e w1 ⟨rfl, hw1⟩)
        go_roundg ((i + j) / 2 - i)
        case measure => omega
        case rel => exact ⟨i, (i + j) / 2, rfl, by go_num, by omega, by omega, by omega, by omega, sw_trans A.out.2 A.out.1 hw1 rfl,
          hid ⟨H.out.1, fun g1 => hv⟩⟩
    · have hiz : ¬ (i : Int) < (j : Int) := by omega
      obtain ⟨s, hsi, rfl⟩ : ∃ s, s = i ∧ s = j := ⟨i, rfl, by omega⟩
      subst hsi
      have MD : Mid key d a s m (M + m - s) b := t.mid (lo := a) (hi := m) (by omega) (by omega) (.inr ⟨hmM, rfl, rfl⟩) hi hj H.out.1 H.out.2
      have hF : ∀ x wx, x.size = d.size → SW (encN nn) (W.alloc (.cells #[.func (.func g) #[] lb, .func (.func sf) #[] sb] 79)) blk off x wx → Fam nn g lb sf sb key blk off x wx := fun x wx hs h => F1.on h hs
      have A : Hid _ := hid (⟨hF, F1.lt, S1, F.lt, hw⟩ : _ ∧ _ ∧ _ ∧ _ ∧ _)
      have A0 := A
      have MD0 : Hid _ := hid MD
      have IH0 : Hid _ := hid IH
      have F0 := F.lt
      clear Fk F1 S1 F hF hw
      rcases Nat.lt_or_ge s m with x1 | x1
      · have z1 : (s : Int) < (m : Int) := by omega
        have z2 : (m : Int) < (M : Int) + m - s := by omega
        have z2' : (s : Int) < (M : Int) := by omega
        have z3' : (M : Int) < (M : Int) + m - s := by omega
        rcases Nat.lt_or_ge a s with x3 | x3
        · have z3 : (a : Int) < (s : Int) := by omega
          rcases Nat.lt_or_ge (M + m - s) b with x4 | x4
          · have z4 : (M : Int) + m - s < (b : Int) := by omega
            have bx := sw_box F0 A.out.2.2.2.2
            have b0 := bx.1
            have b1 := bx.2
            have hc1 := rotate_any (A.out.1 d wr rfl A.out.2.2.2.2) s m (M + m - s) (by omega) (by omega) (by omega)
            rw [show (((M + m - s) : Nat) : Int) = (M : Int) + m - s by omega] at hc1
            clear bx IH MD A
            go_wp2_with (go_at_call 74; refine hc1.mono ?_; rintro e w1 ⟨rfl, d1, hr, hw1⟩; have hw1' := sw_trans A0.out.2.1 A0.out.2.2.2.2 hw1 hr.1; have bx := sw_box F0 hw1'; have e0 := bx.1; have e1 := bx.2)
            have hs1 := hr.1
            have lo := MD0.out.low t hr
            have hi := MD0.out.high t hr
            rw [show s + ((M + m - s) - m) = M by omega] at lo hi
            have hc2 := IH0.out a s M d1 w1 (by omega) (A0.out.1 _ _ hs1 hw1') lo (by omega) (by omega)
            unfold SymIs at hc2
            have C2 : Hid _ := hid (⟨hr, hi, hw1'⟩ : _ ∧ _ ∧ _)
            clear hr hi lo hw1' hw1
            have tok : Hid True := hid trivial
            go_wp2_with (go_at_call 69; clear tok; refine hc2.mono ?_; rintro e w2 ⟨rfl, d2, hm1, hw2⟩; have hw2' := sw_trans A0.out.2.1 C2.out.2.2 hw2 hm1.size; have by2 := sw_box F0 hw2'; have e2 := by2.1; have e3 := by2.2)
            have hr := C2.out.1
            have hi := C2.out.2.1
            have hs2 : d2.size = d.size := by rw [hm1.size, hs1]
            have hi2 := hi.out hm1.out (by omega) hm1.size
            have hc3 := IH0.out M (M + m - s) b d2 w2 (by omega) (A0.out.1 _ _ hs2 hw2') hi2 (by omega) (by omega)
            unfold SymIs at hc3
            rw [show (((M + m - s) : Nat) : Int) = (M : Int) + m - s by omega] at hc3
            have C3 : Hid _ := hid (⟨hr, hm1, hw2'⟩ : _ ∧ _ ∧ _)
            clear hr hi hi2 hm1 hw2' hw2
            go_wp2_with (go_at_call 69; refine hc3.mono ?_; rintro e w3 ⟨rfl, d3, hm2, hw3⟩)
            have hr := C3.out.1
            have hm1 := C3.out.2.1
            have hw3' := sw_trans A0.out.2.1 C3.out.2.2 hw3 hm2.size
            have hs3 : d3.size = d.size := by first | exact hm2.size | (rw [hm2.size]; exact hs2)
            go_end0
            exact ⟨rfl, d3, MD0.out.join t hr (by rw [show s + ((M + m - s) - m) = M by omega]; exact hm1) (by rw [show s + ((M + m - s) - m) = M by omega]; exact hm2), sw_trans A0.out.2.2.2.1 A0.out.2.2.1 hw3' hs3⟩
          · exfalso; omega
        · have z3 : ¬ (a : Int) < (s : Int) := by omega
          rcases Nat.lt_or_ge (M + m - s) b with x4 | x4
          · have z4 : (M : Int) + m - s < (b : Int) := by omega
            have bx := sw_box F0 A.out.2.2.2.2
            have b0 := bx.1
            have b1 := bx.2
            have hc1 := rotate_any (A.out.1 d wr rfl A.out.2.2.2.2) s m (M + m - s) (by omega) (by omega) (by omega)
            rw [show (((M + m - s) : Nat) : Int) = (M : Int) + m - s by omega] at hc1
            clear bx IH MD A
            go_wp2_with (go_at_call 74; refine hc1.mono ?_; rintro e w1 ⟨rfl, d1, hr, hw1⟩; have hw1' := sw_trans A0.out.2.1 A0.out.2.2.2.2 hw1 hr.1; have bx := sw_box F0 hw1'; have e0 := bx.1; have e1 := bx.2)
            have hs1 := hr.1
            have lo := MD0.out.low t hr
            have hi := MD0.out.high t hr
            rw [show s + ((M + m - s) - m) = M by omega] at lo hi
            have hm1 : Mrg key d1 d1 a M := by have q := lo; rw [show s = a by omega] at q; exact q.mrg_left
            skip
            have hw2' := hw1'
            have hi2 := hi.out hm1.out (by omega) hm1.size
            have hc3 := IH0.out M (M + m - s) b d1 w1 (by omega) (A0.out.1 _ _ hs1 hw2') hi2 (by omega) (by omega)
            unfold SymIs at hc3
            rw [show (((M + m - s) : Nat) : Int) = (M : Int) + m - s by omega] at hc3
            have C3 : Hid _ := hid (⟨hr, hm1, hw2'⟩ : _ ∧ _ ∧ _)
            clear hr hi hi2 hm1 hw2' lo hw1' hw1
            go_wp2_with (go_at_call 69; refine hc3.mono ?_; rintro e w3 ⟨rfl, d3, hm2, hw3⟩)
            have hr := C3.out.1
            have hm1 := C3.out.2.1
            have hw3' := sw_trans A0.out.2.1 C3.out.2.2 hw3 hm2.size
            have hs3 : d3.size = d.size := by first | exact hm2.size | (rw [hm2.size]; exact hs1)
            go_end0
            exact ⟨rfl, d3, MD0.out.join t hr (by rw [show s + ((M + m - s) - m) = M by omega]; exact hm1) (by rw [show s + ((M + m - s) - m) = M by omega]; exact hm2), sw_trans A0.out.2.2.2.1 A0.out.2.2.1 hw3' hs3⟩
          · have z4 : ¬ (M : Int) + m - s < (b : Int) := by omega
            have bx := sw_box F0 A.out.2.2.2.2
            have b0 := bx.1
            have b1 := bx.2
            have hc1 := rotate_any (A.out.1 d wr rfl A.out.2.2.2.2) s m (M + m - s) (by omega) (by omega) (by omega)
            rw [show (((M + m - s) : Nat) : Int) = (M : Int) + m - s by omega] at hc1
            clear bx IH MD A
            go_wp2_with (go_at_call 74; refine hc1.mono ?_; rintro e w1 ⟨rfl, d1, hr, hw1⟩; have hw1' := sw_trans A0.out.2.1 A0.out.2.2.2.2 hw1 hr.1; have bx := sw_box F0 hw1'; have e0 := bx.1; have e1 := bx.2)
            have hs1 := hr.1
            have lo := MD0.out.low t hr
            have hi := MD0.out.high t hr
            rw [show s + ((M + m - s) - m) = M by omega] at lo hi
            have hm1 : Mrg key d1 d1 a M := by have q := lo; rw [show s = a by omega] at q; exact q.mrg_left
            skip
            have hw2' := hw1'
            have hi2 := hi.out hm1.out (by omega) hm1.size
            have hm2 : Mrg key d1 d1 M b := by have q := hi2; rw [show M + m - s = b by omega] at q; exact q.mrg_right
            have hw3' := hw2'
            have K : Hid _ := hid (⟨hr, hm1, hm2, hw3'⟩ : _ ∧ _ ∧ _ ∧ _)
            clear hi hi2 lo hr hm1 hm2 hw1' hw2' hw3'
            try go_wp2
            have hr := K.out.1
            have hm1 := K.out.2.1
            have hm2 := K.out.2.2.1
            have hw3' := K.out.2.2.2
            go_end0
            exact ⟨rfl, d1, MD0.out.join t hr (by rw [show s + ((M + m - s) - m) = M by omega]; exact hm1) (by rw [show s + ((M + m - s) - m) = M by omega]; exact hm2), sw_trans A0.out.2.2.2.1 A0.out.2.2.1 hw3' hs1⟩
      · obtain rfl : s = m := by omega
        rcases Nat.lt_or_ge s M with x2 | x2
        · have z1 : ¬ (s : Int) < (s : Int) := by omega
          have z3' : ¬ (M : Int) < (M : Int) + s - s := by omega
          have z2' : (s : Int) < (M : Int) := by omega
          have z3 : (a : Int) < (s : Int) := by omega
          have hr : Rot d d s s (M + s - s) := by exact Rot.refl_left (by omega)
          have hw1' := A.out.2.2.2.2
          clear A MD IH
          have lo := MD0.out.low t hr
          have hi := MD0.out.high t hr
          rw [show s + ((M + s - s) - s) = M by omega] at lo hi
          have bx := sw_box F0 hw1'
          have b0 := bx.1
          have b1 := bx.2
          have hc2 := IH0.out a s M d wr (by omega) (A0.out.1 _ _ rfl hw1') lo (by omega) (by omega)
          unfold SymIs at hc2
          have C2 : Hid _ := hid (⟨hr, hi, hw1'⟩ : _ ∧ _ ∧ _)
          clear hr hi lo hw1'
          have tok : Hid True := hid trivial
          go_wp2_with (go_at_call 69; clear tok; refine hc2.mono ?_; rintro e w2 ⟨rfl, d2, hm1, hw2⟩; have hw2' := sw_trans A0.out.2.1 C2.out.2.2 hw2 hm1.size; have by2 := sw_box F0 hw2'; have e2 := by2.1; have e3 := by2.2)
          have hr := C2.out.1
          have hi := C2.out.2.1
          have hs2 : d2.size = d.size := by rw [hm1.size]
          have hi2 := hi.out hm1.out (by omega) hm1.size
          have hm2 : Mrg key d2 d2 M b := by have q := hi2; rw [show M + s - s = M by omega] at q; exact q.mrg_left
          have hw3' := hw2'
          have K : Hid _ := hid (⟨hr, hm1, hm2, hw3'⟩ : _ ∧ _ ∧ _ ∧ _)
          clear hi hi2 hr hm1 hm2 hw2' hw3'
          try go_wp2
          have hr := K.out.1
          have hm1 := K.out.2.1
          have hm2 := K.out.2.2.1
          have hw3' := K.out.2.2.2
          go_end0
          exact ⟨rfl, d2, MD0.out.join t hr (by rw [show s + ((M + s - s) - s) = M by omega]; exact hm1) (by rw [show s + ((M + s - s) - s) = M by omega]; exact hm2), sw_trans A0.out.2.2.2.1 A0.out.2.2.1 hw3' hs2⟩
        · have z1 : ¬ (s : Int) < (s : Int) := by omega
          have z3' : ¬ (M : Int) < (M : Int) + s - s := by omega
          have z2' : ¬ (s : Int) < (M : Int) := by omega
          have hr : Rot d d s s (M + s - s) := by exact Rot.refl_left (by omega)
          have hw1' := A.out.2.2.2.2
          clear A MD IH
          have lo := MD0.out.low t hr
          have hi := MD0.out.high t hr
          rw [show s + ((M + s - s) - s) = M by omega] at lo hi
          have hm1 : Mrg key d d a M := by have q := lo; rw [show M = s by omega] at q ⊢; exact q.mrg_right
          skip
          have hw2' := hw1'
          have hi2 := hi.out hm1.out (by omega) hm1.size
          have hm2 : Mrg key d d M b := by have q := hi2; rw [show M + s - s = M by omega] at q; exact q.mrg_left
          have hw3' := hw2'
          have K : Hid _ := hid (⟨hr, hm1, hm2, hw3'⟩ : _ ∧ _ ∧ _ ∧ _)
          clear hi hi2 lo hr hm1 hm2 hw1' hw2' hw3'
          try go_wp2
          have hr := K.out.1
          have hm1 := K.out.2.1
          have hm2 := K.out.2.2.1
          have hw3' := K.out.2.2.2
          go_end0
          exact ⟨rfl, d, MD0.out.join t hr (by rw [show s + ((M + s - s) - s) = M by omega]; exact hm1) (by rw [show s + ((M + s - s) - s) = M by omega]; exact hm2), sw_trans A0.out.2.2.2.1 A0.out.2.2.1 hw3' rfl⟩

theorem sym_any : ∀ (N : Nat) (a m b : Nat) (d : Array Nat) (W : World), b - a ≤ N → Fam nn g lb sf sb key blk off d W → Two key d a m b → a < m → m < b → SymIs nn g lb sf sb key blk off a m b d W := by
  intro N
  induction N with
  | zero => intro a m b d W h F t h1 h2; omega
  | succ N ih =>
    intro a m b d W h F t h1 h2
    by_cases ha : m = a + 1
    · subst ha
      exact sym_left F a b t h2
    · by_cases hb : b = m + 1
      · subst hb
        exact sym_right F a m t (by omega)
      · have IH := fun a' m' b' d' W' (h' : b' - a' < b - a) => ih a' m' b' d' W' (by omega)
        rcases Nat.lt_or_ge ((a + b) / 2) m with hm | hm
        · exact sym_mid1 F a m b _ (by omega) (by omega) hm t (by omega) (by omega) IH
        · exact sym_mid2 F a m b _ (by omega) (by omega) hm t (by omega) (by omega) IH
end Go.Proofs.YtoiondgcjbdonaaDoor
