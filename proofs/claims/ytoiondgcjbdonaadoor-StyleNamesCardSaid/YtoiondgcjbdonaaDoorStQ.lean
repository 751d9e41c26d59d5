/- Layer 5: which rules hold: the text's pieces; both sides. -/
import Derived.Test.YtoiondgcjbdonaaDoorStP
namespace Go.Proofs.YtoiondgcjbdonaaDoor
set_option linter.unusedVariables false
set_option linter.unusedSimpArgs false
set_option maxRecDepth 100000
open Go.RowKit Go.Shelf Go.Lib Go.Sort

theorem and_le8 (a b : BitVec 8) : (a &&& b).toNat ≤ a.toNat := by
  rw [BitVec.toNat_and]; exact Nat.and_le_left
theorem bv_split8 (a b : BitVec 8) : a &&& ~~~b = a - (a &&& b) := by
  have h := BitVec.add_eq_or_of_and_eq_zero (a &&& ~~~b) (a &&& b) (by ext i hi; simp; intro h1 h2 h3; simp_all)
  have h2 : (a &&& ~~~b) ||| (a &&& b) = a := by ext i hi; simp; cases a[i] <;> cases b[i] <;> rfl
  rw [h2] at h
  rw [BitVec.eq_sub_iff_add_eq]
  exact h
theorem andNot8 (c m : Nat) (hc : c < 256) (hm : m < 256) : bits .andNot .u8 (c : Int) (m : Int) = ((c - (c &&& m) : Nat) : Int) := by
  show IntKind.u8.wrap ((BitVec.ofInt 8 c &&& ~~~BitVec.ofInt 8 m).toNat : Int) = _
  rw [wrap8 _ (BitVec.isLt _), bv_split8, BitVec.toNat_sub_of_le (and_le8 _ _)]
  have e1 : (BitVec.ofInt 8 (c : Int)).toNat = c := by simp; omega
  have e2 : (BitVec.ofInt 8 (m : Int)).toNat = m := by simp; omega
  rw [BitVec.toNat_and, e1, e2]

/-- The pieces of a text between blanks. -/
def pcsB (s : ByteArray) : List ByteArray := Lib.splitB { data := #[32] } 0 (Lib.countB s { data := #[32] }) s
theorem pcsB_data (s : ByteArray) : (pcsB s).map (·.data.toList) = pcs s.data.toList := by
  unfold pcsB
  rw [Lib.splitB_data]
  exact split_pcs _ _ (Nat.le_refl _)
theorem pcsB_len (s : ByteArray) : (pcsB s).length = Lib.countB s { data := #[32] } + 1 := Lib.splitB_all { data := #[32] } (by decide) 0 _ s rfl
def strs (P : List ByteArray) : List Value := P.map Value.string
theorem strs_at (P : List ByteArray) (k : Nat) (h : k < P.length) : (strs P)[k]? = some (.string P[k]) := by simp [strs, h]
theorem strs_len (P : List ByteArray) : (strs P).length = P.length := by simp [strs]
theorem split_any (s : ByteArray) (w : World) (hT : Tabs w) (hs : s.size < 4294967281) :
    Calls Tryd.prog 36 #[.string s, .string { data := #[32] }] w fun e w' => e = .returned (.slice (some ⟨w.heap.size, 0, none⟩) (pcsB s).length (pcsB s).length) ∧ w.alloc (.cells (strs (pcsB s)).toArray 9) = w' := by
  obtain ⟨m, hm⟩ := hT.2
  refine (Any.strings_Split { Tryd.laysSplit with } Tryd.laysSplit.i9 s { data := #[32] } m w hs hm (by decide)).mono ?_
  rintro e w' ⟨rfl, rfl⟩
  exact ⟨by rw [pcsB_len], rfl⟩

def holdsB (r : Ru) (kind : Nat) (P : List ByteArray) (st : Nat) : Bool :=
  (decide (r.kind = 0) || decide (r.kind = kind)) && (decide (r.st &&& st = r.st) && (decide (r.cls.size = 0) || P.any fun p => !p.data.toList.isEmpty && p.data.toList == r.cls.data.toList))
theorem holdsB_pcs (r : Ru) (kind : Nat) (s : ByteArray) (st : Nat) : holdsB r kind (pcsB s) st = holdsL r kind s.data.toList st := by
  unfold holdsB holdsL amongL
  rw [← pcsB_data, List.any_map]
  rfl
theorem and_le_self {a b : Nat} : a &&& b ≤ a := Nat.and_le_left

/-- The pieces ahead of a place hold no such word. -/
def NoP (c : ByteArray) (P : List ByteArray) : Prop := (P.any fun p => !p.data.toList.isEmpty && p.data.toList == c.data.toList) = false
theorem NoP.next {c : ByteArray} {P : List ByteArray} {k : Nat} (hk : k < P.length) (h : NoP c (P.take k)) (hp : (!P[k].data.toList.isEmpty && P[k].data.toList == c.data.toList) = false) : NoP c (P.take (k + 1)) := by
  unfold NoP at *
  rw [List.take_succ_eq_append_getElem hk, List.any_append, h]
  simpa using hp
theorem NoP.yes {c : ByteArray} {P : List ByteArray} {k : Nat} (hk : k < P.length) (hp : (!P[k].data.toList.isEmpty && P[k].data.toList == c.data.toList) = true) : (P.any fun p => !p.data.toList.isEmpty && p.data.toList == c.data.toList) = true :=
  List.any_eq_true.2 ⟨P[k], List.getElem_mem hk, hp⟩

set_option maxHeartbeats 4000000 in
set_option maxRecDepth 100000 in
theorem holds_any (r : Ru) (hr : r.In) (kind st : Nat) (hst : st < 256) (P : List ByteArray) (A : Option Addr) (c B : Nat) (w : World) (hA : At B w A (strs P)) (hB : B ≤ w.heap.size) (hl : P.length ≤ 9000000000000000000) :
    Calls Tryd.prog 37 #[.agg #[.int .u8 (r.kind : Int), .string r.cls, .int .u8 (r.st : Int), .int .u8 (r.look.has : Int), .int .u8 (r.look.col.r : Int), .int .u8 (r.look.col.g : Int), .int .u8 (r.look.col.b : Int), .int .u8 (r.look.col.a : Int), .int .u8 (r.look.bak.r : Int), .int .u8 (r.look.bak.g : Int), .int .u8 (r.look.bak.b : Int), .int .u8 (r.look.bak.a : Int), .bool r.look.brd, .int .i64 r.look.pad], .int .u8 (kind : Int), .slice A P.length c, .int .u8 (st : Int)] w fun e w' => e = .returned (.bool (holdsB r kind P st)) ∧ Below w.heap.size w w' := by
  obtain ⟨i1, i2, i3, i4⟩ := hr
  have hn := andNot8 r.st st i2 hst
  have hle := Nat.and_le_left (n := r.st) (m := st)
  have hH : holdsB r kind P st = ((decide (r.kind = 0) || decide (r.kind = kind)) && (decide (r.st &&& st = r.st) && (decide (r.cls.size = 0) || P.any fun p => !p.data.toList.isEmpty && p.data.toList == r.cls.data.toList))) := rfl
  generalize holdsB r kind P st = H at *
  generalize r.st &&& st = q at *
  by_cases hk : r.kind = 0 ∨ r.kind = kind
  · have hz : (decide (r.kind = 0) || decide (r.kind = kind)) = true := by simpa using hk
    rw [hz, Bool.true_and] at hH
    by_cases hs : q = r.st
    · rw [decide_eq_true hs, Bool.true_and] at hH
      rw [show r.st - q = 0 by omega] at hn
      have HH := hid hH
      clear hH hz hs hle i1 i2 i3
      have K : Hid (∀ w', w' = w.alloc (.cells #[.int .u8 (r.kind : Int), .string r.cls, .int .u8 (r.st : Int), .int .u8 (r.look.has : Int), .int .u8 (r.look.col.r : Int), .int .u8 (r.look.col.g : Int), .int .u8 (r.look.col.b : Int), .int .u8 (r.look.col.a : Int), .int .u8 (r.look.bak.r : Int), .int .u8 (r.look.bak.g : Int), .int .u8 (r.look.bak.b : Int), .int .u8 (r.look.bak.a : Int), .bool r.look.brd, .int .i64 r.look.pad] 46) → Below w.heap.size w w') := hid fun w' h => by subst h; exact (by repeat (first | exact Below.refl _ _ | with_reducible refine Below.alloc ?_ (by first | (simp; done) | (simp; omega) | omega) _ | with_reducible refine Below.setCell ?_ (by first | (simp; done) | (simp; omega) | omega) _ | with_reducible refine Below.drew ?_ | with_reducible refine Below.trans ?_ (Below.mono (by assumption) (by first | (simp; done) | (simp; omega) | omega))))
      have hcase : (((r.kind : Int) != 0) = false ∨ (((r.kind : Int) != 0) = true ∧ ((r.kind : Int) != (kind : Int)) = false)) := by
        by_cases h0 : r.kind = 0
        · left; simp [h0]
        · right
          rcases hk with h | h
          · exact absurd h h0
          · constructor
            · simp; omega
            · simp; omega
      clear hk
      rcases hcase with z1 | ⟨z1, z2⟩
      all_goals
        go_enter Tryd.func37, Tryd.ntmps37
        go_wp2
        go_loopg [29] P.length (fun gh v29 wr => ∃ k : Nat, v29 = .int .i64 k ∧ k ≤ P.length ∧ P.length - k ≤ gh ∧ Hid (NoP r.cls (P.take k)) ∧ wr = w.alloc (.cells #[.int .u8 (r.kind : Int), .string r.cls, .int .u8 (r.st : Int), .int .u8 (r.look.has : Int), .int .u8 (r.look.col.r : Int), .int .u8 (r.look.col.g : Int), .int .u8 (r.look.col.b : Int), .int .u8 (r.look.col.a : Int), .int .u8 (r.look.bak.r : Int), .int .u8 (r.look.bak.g : Int), .int .u8 (r.look.bak.b : Int), .int .u8 (r.look.bak.a : Int), .bool r.look.brd, .int .i64 r.look.pad] 46))
        case atStart => exact ⟨0, rfl, by omega, by omega, hid rfl, rfl⟩
        case round =>
          obtain ⟨k, rfl, hk, hgk, HP, rfl⟩ := hrel
          by_cases hlt : k < P.length
          · have hli : (k : Int) < (P.length : Int) := by omega
            obtain ⟨g, o, rfl, hg, hc⟩ := hA (by rw [strs_len]; omega)
            have c0 := hc k _ (strs_at P k hlt)
            have hgw : g < w.heap.size := by omega
            clear hc
            have HN : Hid ((!P[k].data.toList.isEmpty && P[k].data.toList == r.cls.data.toList) = false → NoP r.cls (P.take (k + 1))) := hid fun h => HP.out.next hlt h
            have HY : Hid ((!P[k].data.toList.isEmpty && P[k].data.toList == r.cls.data.toList) = true → H = true) := hid fun h => by rw [HH.out, NoP.yes hlt h, Bool.or_true]
            generalize P[k] = p at *
            rw [← ByteArray.toList_eq, ← ByteArray.toList_eq] at HN HY
            cases he : p.toList.isEmpty
            · cases hb : (p.toList == r.cls.toList)
              · rw [he, hb] at HN HY
                clear HY
                go_wp2
                go_roundg (P.length - (k + 1))
                case measure => omega
                case rel => exact ⟨k + 1, by go_num, by omega, by omega, hid (HN.out rfl), rfl⟩
              · rw [he, hb] at HN HY
                clear HN
                go_wp2
                go_ret
                exact ⟨ret_bool (HY.out rfl).symm, K.out _ rfl⟩
            · rw [he] at HN HY
              have he2 : p.toList = [] := by simpa using he
              clear HY
              go_wp2
              go_roundg (P.length - (k + 1))
              case measure => omega
              case rel => exact ⟨k + 1, by go_num, by omega, by omega, hid (HN.out rfl), rfl⟩
          · have hlz : ¬ ((k : Int) < (P.length : Int)) := by omega
            obtain rfl : k = P.length := by omega
            have hno := HP.out
            rw [List.take_length] at hno
            unfold NoP at hno
            have HO := hid hno
            clear hno
            by_cases h1 : r.cls.size = 0
            · have z4 := bytes_nil h1
              have H1 := hid h1
              clear h1
              go_wp2
              go_ret
              exact ⟨ret_bool (by rw [HH.out, decide_eq_true H1.out]; simp), K.out _ rfl⟩
            · have z4 := bytes_some h1
              have H1 := hid h1
              clear h1
              go_wp2
              go_ret
              exact ⟨ret_bool (by rw [HH.out, decide_eq_false H1.out, HO.out]; rfl), K.out _ rfl⟩
    · rw [decide_eq_false hs, Bool.false_and] at hH
      subst hH
      have hd : ((r.st - q : Nat) : Int) ≠ 0 := by omega
      generalize r.st - q = d at *
      have z3 : ((d : Int) != 0) = true := by simpa using hd
      have hcase : (((r.kind : Int) != 0) = false ∨ (((r.kind : Int) != 0) = true ∧ ((r.kind : Int) != (kind : Int)) = false)) := by
        by_cases h0 : r.kind = 0
        · left; simp [h0]
        · right
          rcases hk with h | h
          · exact absurd h h0
          · constructor
            · simp; omega
            · simp; omega
      clear hk hd hs hle hz hA i1 i2 i3
      rcases hcase with z1 | ⟨z1, z2⟩
      all_goals
        go_enter Tryd.func37, Tryd.ntmps37
        go_wp2
        go_ret
        exact ⟨rfl, (by repeat (first | exact Below.refl _ _ | with_reducible refine Below.alloc ?_ (by first | (simp; done) | (simp; omega) | omega) _ | with_reducible refine Below.setCell ?_ (by first | (simp; done) | (simp; omega) | omega) _ | with_reducible refine Below.drew ?_ | with_reducible refine Below.trans ?_ (Below.mono (by assumption) (by first | (simp; done) | (simp; omega) | omega))))⟩
  · have hz : (decide (r.kind = 0) || decide (r.kind = kind)) = false := by simpa using hk
    rw [hz, Bool.false_and] at hH
    subst hH
    have z1 : ((r.kind : Int) != 0) = true := by simp; omega
    have z2 : ((r.kind : Int) != (kind : Int)) = true := by simp; omega
    clear hz hk hn hle hA i1 i2 i3
    go_enter Tryd.func37, Tryd.ntmps37
    go_wp2
    go_ret
    exact ⟨rfl, (by repeat (first | exact Below.refl _ _ | with_reducible refine Below.alloc ?_ (by first | (simp; done) | (simp; omega) | omega) _ | with_reducible refine Below.setCell ?_ (by first | (simp; done) | (simp; omega) | omega) _ | with_reducible refine Below.drew ?_ | with_reducible refine Below.trans ?_ (Below.mono (by assumption) (by first | (simp; done) | (simp; omega) | omega))))⟩

/-! ### The reference -/
/-- What is still to be answered, at a place with what lies behind the last blank; behind the text's end: no. -/
def Amg (word text : ByteArray) (M : Bool) (f i : Nat) : Prop := (i ≤ text.size → amongG word.data.toList ((text.data.toList.drop f).take (i - f)) (text.data.toList.drop i) = M) ∧ (text.size < i → M = false)
theorem Amg.start {word text : ByteArray} {M : Bool} (h : amongG word.data.toList [] text.data.toList = M) : Amg word text M 0 0 := ⟨fun _ => by simpa using h, fun h => by omega⟩
/-- A byte that is no blank. -/
theorem Amg.next {word text : ByteArray} {M : Bool} {f i : Nat} (h : Amg word text M f i) (hfi : f ≤ i) (hi : i < text.size) (h32 : text[i] ≠ 32) : Amg word text M f (i + 1) := by
  refine ⟨fun _ => ?_, fun h' => by omega⟩
  have := h.1 (by omega)
  rw [List.drop_eq_getElem_cons (l := text.data.toList) (i := i) (by simpa using hi)] at this
  have e : text.data.toList[i]'(by simpa using hi) = text[i] := rfl
  rw [e] at this
  unfold amongG at this
  rw [if_neg h32] at this
  rw [← this]
  congr 1
  rw [show i + 1 - f = (i - f) + 1 by omega, List.take_succ_eq_append_getElem (by have e := (Array.length_toList (xs := text.data)); rw [List.length_drop, e]; show i - f < text.size - f; omega)]
  congr 1
  simp [show f + (i - f) = i by omega]
  rfl
theorem Amg.word {word text : ByteArray} {M : Bool} {f i : Nat} (h : Amg word text M f i) (hfi : f ≤ i) (hi : i ≤ text.size) (h32 : ∀ hi : i < text.size, text[i] = 32) :
    (f < i → (text.extract f i).data.toList = word.data.toList → M = true) ∧ ((f < i → (text.extract f i).data.toList ≠ word.data.toList) → Amg word text M (i + 1) (i + 1)) := by
  have hx : (text.extract f i).data.toList = (text.data.toList.drop f).take (i - f) := by
    rw [Lib.extract_data]
  have := h.1 hi
  rw [← hx] at this
  have hlen : (text.extract f i).data.toList.length = i - f := by
    have e := (Array.length_toList (xs := text.data))
    rw [hx, List.length_take, List.length_drop, e]
    show min (i - f) (text.size - f) = i - f
    omega
  clear hx
  generalize (text.extract f i).data.toList = X at *
  have yes : f < i → X = word.data.toList → (!X.isEmpty && X == word.data.toList) = true := fun g1 g2 => by
    rw [← g2]
    cases X with
    | nil => simp at hlen; omega
    | cons c t => simp
  have no : (f < i → X ≠ word.data.toList) → (!X.isEmpty && X == word.data.toList) = false := fun g => by
    cases X with
    | nil => rfl
    | cons c t =>
      have := g (by simp at hlen; omega)
      have e : ((c :: t) == word.data.toList) = false := by rw [beq_eq_false_iff_ne]; exact this
      rw [e, Bool.and_false]
  by_cases hlt : i < text.size
  · rw [List.drop_eq_getElem_cons (by simpa using hlt)] at this
    have e : text.data.toList[i]'(by simpa using hlt) = text[i] := rfl
    rw [e, h32 hlt] at this
    unfold amongG at this
    rw [if_pos rfl] at this
    refine ⟨fun g1 g2 => ?_, fun g => ⟨fun _ => ?_, fun h' => by omega⟩⟩
    · rw [← this, yes g1 g2, Bool.true_or]
    · rw [no g, Bool.false_or] at this
      rw [← this]
      simp
  · have hie : i = text.size := by omega
    rw [List.drop_of_length_le (by have e := (Array.length_toList (xs := text.data)); rw [e]; show text.size ≤ i; omega)] at this
    unfold amongG at this
    refine ⟨fun g1 g2 => ?_, fun g => ⟨fun h' => by omega, fun _ => ?_⟩⟩
    · rw [← this, yes g1 g2]
    · rw [← this, no g]

set_option maxHeartbeats 4000000 in
set_option maxRecDepth 100000 in
theorem among_any (word text : ByteArray) (w : World) (hs : text.size ≤ 9000000000000000000) :
    Calls Tryd.prog 72 #[.string word, .string text] w fun e w' => e = .returned (.bool (amongL word.data.toList text.data.toList)) ∧ w = w' := by
  rw [← among_eq]
  obtain ⟨M, hM⟩ : ∃ M, amongG word.data.toList [] text.data.toList = M := ⟨_, rfl⟩
  rw [hM]
  have HM := hid hM
  clear hM
  go_enter Tryd.func72, Tryd.ntmps72
  go_wp2
  go_loopg [5, 6] (text.size + 1) (fun gh v5 v6 wr => ∃ (f i : Nat), v5 = .int .i64 f ∧ v6 = .int .i64 i ∧ f ≤ i ∧ i ≤ text.size + 1 ∧ text.size + 1 - i ≤ gh ∧ Hid (Amg word text M f i) ∧ wr = w)
  case atStart => exact ⟨0, 0, rfl, rfl, by omega, by omega, by omega, hid (Amg.start HM.out), rfl⟩
  case round =>
    obtain ⟨f, i, rfl, rfl, hfi, hi, hgh, HA, rfl⟩ := hrel
    by_cases hle : i ≤ text.size
    · have hlz : (i : Int) ≤ (text.size : Int) := by omega
      by_cases hie : i = text.size
      · have hz : ((i : Int) == (text.size : Int)) = true := by simp; omega
        have HW := hid (HA.out.word hfi hle (fun h => by omega))
        have HI := hid hie
        clear hie
        by_cases hfl : f < i
        · have hfz : (f : Int) < (i : Int) := by omega
          cases hb : ((text.extract f i).toList == word.toList)
          · have HN := hid (HW.out.2 (fun _ h => by rw [← ByteArray.toList_eq, ← ByteArray.toList_eq] at h; rw [h] at hb; simp at hb))
            go_wp2
            go_roundg (text.size + 1 - (i + 1))
            case measure => omega
            case rel => exact ⟨i + 1, i + 1, by go_num, by go_num, by omega, by omega, by omega, HN, rfl⟩
          · have HN := hid (HW.out.1 hfl (by rw [← ByteArray.toList_eq, ← ByteArray.toList_eq]; simpa using hb))
            go_wp2
            go_ret
            exact ⟨ret_bool HN.out.symm, rfl⟩
        · have hfz : ¬ (f : Int) < (i : Int) := by omega
          have HN := hid (HW.out.2 (fun h => absurd h hfl))
          go_wp2
          go_roundg (text.size + 1 - (i + 1))
          case measure => omega
          case rel => exact ⟨i + 1, i + 1, by go_num, by go_num, by omega, by omega, by omega, HN, rfl⟩
      · have hz : ((i : Int) == (text.size : Int)) = false := by simp; omega
        have hlt : i < text.size := by omega
        have hltz : (i : Int) < (text.size : Int) := by omega
        by_cases h32 : text[i] = 32
        · have hbz : ((text[i].toNat : Int) == 32) = true := by rw [h32]; rfl
          have HW := hid (HA.out.word hfi hle (fun _ => h32))
          clear h32 hie
          by_cases hfl : f < i
          · have hfz : (f : Int) < (i : Int) := by omega
            cases hb : ((text.extract f i).toList == word.toList)
            · have HN := hid (HW.out.2 (fun _ h => by rw [← ByteArray.toList_eq, ← ByteArray.toList_eq] at h; rw [h] at hb; simp at hb))
              go_wp2
              go_roundg (text.size + 1 - (i + 1))
              case measure => omega
              case rel => exact ⟨i + 1, i + 1, by go_num, by go_num, by omega, by omega, by omega, HN, rfl⟩
            · have HN := hid (HW.out.1 hfl (by rw [← ByteArray.toList_eq, ← ByteArray.toList_eq]; simpa using hb))
              go_wp2
              go_ret
              exact ⟨ret_bool HN.out.symm, rfl⟩
          · have hfz : ¬ (f : Int) < (i : Int) := by omega
            have HN := hid (HW.out.2 (fun h => absurd h hfl))
            go_wp2
            go_roundg (text.size + 1 - (i + 1))
            case measure => omega
            case rel => exact ⟨i + 1, i + 1, by go_num, by go_num, by omega, by omega, by omega, HN, rfl⟩
        · have hbz : ((text[i].toNat : Int) == 32) = false := by
            rw [beq_eq_false_iff_ne]
            intro h
            exact h32 (UInt8.toNat_inj.1 (by show text[i].toNat = 32; omega))
          have HN := hid (HA.out.next hfi hlt h32)
          clear h32 hie
          go_wp2
          go_roundg (text.size + 1 - (i + 1))
          case measure => omega
          case rel => exact ⟨f, i + 1, rfl, by go_num, by omega, by omega, by omega, HN, rfl⟩
    · have hlz : ¬ ((i : Int) ≤ (text.size : Int)) := by omega
      have HN := hid (HA.out.2 (by omega))
      go_wp2
      go_ret
      exact ⟨ret_bool HN.out.symm, rfl⟩

set_option maxHeartbeats 4000000 in
set_option maxRecDepth 100000 in
theorem rHolds_any (r : Ru) (hr : r.In) (kind st : Nat) (hst : st < 256) (text : ByteArray) (w : World) (hs : text.size ≤ 9000000000000000000) :
    Calls Tryd.prog 55 #[.agg #[.int .u8 (r.kind : Int), .string r.cls, .int .u8 (r.st : Int), .int .u8 (r.look.has : Int), .int .u8 (r.look.col.r : Int), .int .u8 (r.look.col.g : Int), .int .u8 (r.look.col.b : Int), .int .u8 (r.look.col.a : Int), .int .u8 (r.look.bak.r : Int), .int .u8 (r.look.bak.g : Int), .int .u8 (r.look.bak.b : Int), .int .u8 (r.look.bak.a : Int), .bool r.look.brd, .int .i64 r.look.pad], .int .u8 (kind : Int), .string text, .int .u8 (st : Int)] w fun e w' => e = .returned (.bool (holdsL r kind text.data.toList st)) ∧ Below w.heap.size w w' := by
  obtain ⟨i1, i2, i3, i4⟩ := hr
  have hn := and8 r.st st i2 hst
  have hA : Hid (∀ w, Calls Tryd.prog 72 #[.string r.cls, .string text] w fun e w' => e = .returned (.bool (amongL r.cls.data.toList text.data.toList)) ∧ w = w') := hid fun w => among_any r.cls text w hs
  have hH : holdsL r kind text.data.toList st = ((decide (r.kind = 0) || decide (r.kind = kind)) && (decide (r.st &&& st = r.st) && (decide (r.cls.size = 0) || amongL r.cls.data.toList text.data.toList))) := rfl
  generalize holdsL r kind text.data.toList st = H at *
  generalize r.st &&& st = q at *
  generalize amongL r.cls.data.toList text.data.toList = M at *
  have HH := hid hH
  clear hH i1 i2 i3
  obtain ⟨c, hc⟩ : ∃ c, decide (r.cls.size = 0) = c := ⟨_, rfl⟩
  rw [hc] at HH
  obtain ⟨k0, hk0⟩ : ∃ c, decide (r.kind = 0) = c := ⟨_, rfl⟩
  rw [hk0] at HH
  obtain ⟨k1, hk1⟩ : ∃ c, decide (r.kind = kind) = c := ⟨_, rfl⟩
  rw [hk1] at HH
  obtain ⟨s1, hs1⟩ : ∃ c, decide (q = r.st) = c := ⟨_, rfl⟩
  rw [hs1] at HH
  have z0 : ((r.kind : Int) == 0) = k0 := by
    rw [← hk0, Bool.eq_iff_iff]; simp
  have z1 : ((r.kind : Int) == (kind : Int)) = k1 := by
    rw [← hk1, Bool.eq_iff_iff]; simp only [beq_iff_eq, decide_eq_true_eq]; exact Int.ofNat_inj
  have z2 : ((q : Int) == (r.st : Int)) = s1 := by
    rw [← hs1, Bool.eq_iff_iff]; simp only [beq_iff_eq, decide_eq_true_eq]; exact Int.ofNat_inj
  clear hk0 hk1 hs1
  cases c with
  | true =>
    have z4 := bytes_nil (of_decide_eq_true hc)
    clear hc hA
    cases k0 <;> cases k1 <;> cases s1
    all_goals
      go_enter Tryd.func55, Tryd.ntmps55
      go_wp2
      go_ret
      exact ⟨ret_bool (by rw [HH.out]; rfl), (by repeat (first | exact Below.refl _ _ | with_reducible refine Below.alloc ?_ (by first | (simp; done) | (simp; omega) | omega) _ | with_reducible refine Below.setCell ?_ (by first | (simp; done) | (simp; omega) | omega) _ | with_reducible refine Below.drew ?_ | with_reducible refine Below.trans ?_ (Below.mono (by assumption) (by first | (simp; done) | (simp; omega) | omega))))⟩
  | false =>
    have z4 := bytes_some (of_decide_eq_false hc)
    clear hc
    cases M <;> cases k0 <;> cases k1 <;> cases s1
    all_goals
      go_enter Tryd.func55, Tryd.ntmps55
      go_wp2_with (go_at_call 72; refine (hA.out _).mono ?_; rintro e w1 ⟨rfl, rfl⟩)
      go_ret
      exact ⟨ret_bool (by rw [HH.out]; rfl), (by repeat (first | exact Below.refl _ _ | with_reducible refine Below.alloc ?_ (by first | (simp; done) | (simp; omega) | omega) _ | with_reducible refine Below.setCell ?_ (by first | (simp; done) | (simp; omega) | omega) _ | with_reducible refine Below.drew ?_ | with_reducible refine Below.trans ?_ (Below.mono (by assumption) (by first | (simp; done) | (simp; omega) | omega))))⟩
end Go.Proofs.YtoiondgcjbdonaaDoor
