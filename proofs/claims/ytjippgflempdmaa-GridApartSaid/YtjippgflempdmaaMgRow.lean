/- Layer 10: Share, Row, both sides. -/
import Derived.Test.YtjippgflempdmaaShWalk
import Derived.Test.YtjippgflempdmaaMgShRef
namespace Go.Proofs.Ytjippgflempdmaa
set_option linter.unusedVariables false
set_option linter.unusedSimpArgs false
set_option maxRecDepth 100000
open Go.RowKit
attribute [local go_sem] max_fold min_fold

def okR (n : Int) : Bool := inB n 0 32768
def shareE (L : List T3) (room : Int) : Int := if chk L = 0 then (if okR room then 0 else 2) else chk L
def shareR (L : List T3) (room : Int) : List Int := if shareE L room = 0 then shareP L room else []
theorem shareE_ok {L : List T3} {room : Int} (h : shareE L room = 0) : chk L = 0 ∧ okR room = true := by
  unfold shareE at h
  split at h
  · rename_i h0
    split at h
    · exact ⟨h0, by assumption⟩
    · omega
  · rename_i h0
    exact absurd h h0

end Go.Proofs.Ytjippgflempdmaa

/- Layer 10: Row, both sides. -/
namespace Go.Proofs.Ytjippgflempdmaa
set_option linter.unusedVariables false
set_option linter.unusedSimpArgs false
set_option maxRecDepth 100000
open Go.RowKit
attribute [local go_sem] max_fold min_fold

theorem rounds_out {L : List T3} (hl : L.length ≤ 1024) : ∀ (f : Nat) (left : Int) (P : List Nat) (O : List Int), ShInv L left P O → (roundsP L f left P O).length = L.length ∧ ∀ o ∈ roundsP L f left P O, 0 ≤ o ∧ o ≤ 1000000000 := by
  intro f
  induction f with
  | zero =>
    intro left P O h
    refine ⟨h.len, fun o ho => ?_⟩
    have := h.out o ho
    omega
  | succ f ih =>
    intro left P O h
    unfold roundsP
    split
    · refine ⟨h.len, fun o ho => ?_⟩
      have := h.out o ho
      omega
    · rename_i hP
      have hpl := h.plen
      have hgb := g_bd h
      have hpos : 0 < P.length := List.length_pos_iff.2 hP
      split
      · unfold doneP
        refine ⟨by rw [fold_len _ bump_len, fold_len _ (grow_len L left _), h.len], ?_⟩
        have h1 := grow_out (L := L) (left := left) (g := gP L P) P (fun i hi => by
          have h2 := part_bd (L := L) (left := left) (g := gP L P) h.left.1 (i := i) (by have := (h.idx i hi).2; omega) (member_le h.may hi) (by omega)
          have := h.left
          omega) O 16384 (by omega) h.out
        have h2 := bump_out (P.take (left - spentP L left (gP L P) P).toNat) _ _ (by omega) h1
        have h3 : (P.take (left - spentP L left (gP L P) P).toNat).length ≤ P.length := by rw [List.length_take]; omega
        intro o ho
        have := h2 o ho
        omega
      · exact ih _ _ _ h.step
theorem share_out {L : List T3} {room : Int} (hl : L.length ≤ 1024) (hm : ∀ t ∈ L, mayT t = true) (hr : 0 ≤ room ∧ room ≤ 32768) : (shareP L room).length = L.length ∧ ∀ o ∈ shareP L room, 0 ≤ o ∧ o ≤ 1000000000 := by
  unfold shareP
  split
  · refine ⟨by simp, fun o ho => ?_⟩
    obtain ⟨t, ht, rfl⟩ := List.mem_map.1 ho
    have := (mayT_iff t).1 (hm t ht)
    omega
  · rename_i h
    exact rounds_out hl _ _ _ _ (ShInv.start hm hr h)
theorem share_nil (room : Int) : shareP [] room = [] := by
  unfold shareP
  split
  · rfl
  · rfl
theorem gap_bd {g n : Int} (hg : 0 ≤ g ∧ g ≤ 16384) (hn : 0 ≤ n ∧ n ≤ 1024) : 0 ≤ g * n ∧ g * n ≤ 16777216 := by
  have h1 := Int.mul_nonneg hg.1 hn.1
  have h2 := Int.mul_le_mul hg.2 hn.2 hn.1 (by omega)
  omega

def okG (n : Int) : Bool := inB n 0 16384
def roomN (n : Nat) (gap room : Int) : Int := max 0 (room - gap * max 0 ((n : Int) - 1))
def rowE (L : List T3) (gap room : Int) : Int := if chk L = 0 then (if okG gap && okR room then 0 else 2) else chk L
def rowR (L : List T3) (gap room : Int) : List Int := if rowE L gap room = 0 then shareP L (roomN L.length gap room) else []
def rowB (L : List T3) (gap room : Int) : List Int := startsL (rowR L gap room) gap
def Int2E (l m : List Int) (err : Int) (W : World) (e : Ending) (w' : World) : Prop := ∃ A c A2 c2, e = .returned (.tuple #[.slice A l.length c, .slice A2 m.length c2, .int .i64 err]) ∧ w'.ownsRow W.heap.size 3 1 (.slice A l.length c) l.length (ints l) ∧ w'.ownsRow W.heap.size 3 1 (.slice A2 m.length c2) m.length (ints m) ∧ (∀ k, (Value.slice A2 m.length c2).ownBlock = some k → (Value.slice A l.length c).ownBlock ≠ some k) ∧ Below W.heap.size W w'
theorem Int2E.none {err : Int} {W w' : World} (hb : Below W.heap.size W w') : Int2E [] [] err W (.returned (.tuple #[.slice none 0 0, .slice none 0 0, .int .i64 err])) w' := ⟨Option.none, 0, Option.none, 0, rfl, World.ownsRow_nil _ _ _ _, World.ownsRow_nil _ _ _ _, fun k h => by simp [Value.ownBlock] at h, hb⟩

set_option maxRecDepth 100000 in
set_option maxHeartbeats 4000000 in
theorem sharing_nil (A : Option Addr) (c : Nat) (room : Int) (w : World) (hr : 0 ≤ room ∧ room ≤ 100000) :
    Calls Try.prog 74 #[.slice A 0 c, .int .i64 room] w fun e w' => e = .returned (.slice none 0 0) ∧ w = w' := by
  by_cases h0 : room ≤ 0
  · go_enter Try.func74, Try.ntmps74
    go_wp2
    go_loop [5, 6, 7, 8] (fun o_ p_ le i => o_ = .slice none 0 0 ∧ p_ = .slice none 0 0 ∧ le = .int .i64 room ∧ i = .int .i64 0) (fun _ _ _ _ => 0)
    case atStart => exact ⟨rfl, rfl, rfl, rfl⟩
    case round =>
      obtain ⟨rfl, rfl, rfl, rfl⟩ := hrel
      go_wp2
      go_ret
      exact ⟨rfl, rfl⟩
  · go_enter Try.func74, Try.ntmps74
    go_wp2
    go_loop [5, 6, 7, 8] (fun o_ p_ le i => o_ = .slice none 0 0 ∧ p_ = .slice none 0 0 ∧ le = .int .i64 room ∧ i = .int .i64 0) (fun _ _ _ _ => 0)
    case atStart => exact ⟨rfl, rfl, rfl, rfl⟩
    case round =>
      obtain ⟨rfl, rfl, rfl, rfl⟩ := hrel
      go_wp2
      go_loop [7] (fun le => le = .int .i64 room) (fun _ => 0)
      case atStart => rfl
      case round =>
        obtain rfl := hrel
        go_wp2
        go_loop [9, 10] (fun g i => g = .int .i64 0 ∧ i = .int .i64 0) (fun _ _ => 0)
        case atStart => exact ⟨rfl, rfl⟩
        case round =>
          obtain ⟨rfl, rfl⟩ := hrel
          go_wp2
          go_ret
          exact ⟨rfl, rfl⟩

theorem rowE_ok {L : List T3} {gap room : Int} (h : rowE L gap room = 0) : chk L = 0 ∧ okG gap = true ∧ okR room = true := by
  unfold rowE at h
  split at h
  · rename_i h0
    split at h
    · rename_i h1
      exact ⟨h0, by simpa using h1⟩
    · omega
  · rename_i h0
    exact absurd h h0
theorem roomN_bd {n : Nat} {gap room : Int} (hg : 0 ≤ gap ∧ gap ≤ 16384) (hr : 0 ≤ room ∧ room ≤ 32768) (hn : n ≤ 1024) : (0 ≤ gap * max 0 ((n : Int) - 1) ∧ gap * max 0 ((n : Int) - 1) ≤ 16777216) ∧ 0 ≤ roomN n gap room ∧ roomN n gap room ≤ 32768 := by
  have h := gap_bd hg (n := max 0 ((n : Int) - 1)) (by omega)
  refine ⟨h, ?_⟩
  unfold roomN
  omega

set_option maxRecDepth 100000 in
set_option maxHeartbeats 4000000 in
theorem Row_any (B : Nat) (A : Option Addr) (c : Nat) (L : List T3) (gap room : Int) (w : World) (hA : At B w A (t3s L)) (hB : B ≤ w.heap.size) (hl : L.length ≤ 9000000000000000000) :
    Calls Try.prog 69 #[.slice A L.length c, .int .i64 gap, .int .i64 room] w (Int2E (rowR L gap room) (rowB L gap room) (rowE L gap room) w) := by
  by_cases h0 : chk L = 0
  · obtain ⟨hlen, hall⟩ := chk_ok h0
    have HA := Go.Lib.hid hall
    have HC := Go.Lib.hid (fun w h1 h2 => h0 ▸ check_any B A c L w h1 h2 hl)
    cases hg : okG gap
    · rw [show rowE L gap room = 2 by simp [rowE, h0, hg], show rowB L gap room = [] by simp [rowB, rowR, rowE, h0, hg, startsL], show rowR L gap room = [] by simp [rowR, rowE, h0, hg]]
      have HG : Hid (inB gap 0 16384 = false) := Go.Lib.hid hg
      clear h0 hall hg
      go_enter Try.func69, Try.ntmps69
      go_wp2_with fail
      refine (HC.out _ hA hB).mono ?_
      rintro e w1 ⟨rfl, hb1⟩
      go_wp2_with fail
      refine (within_any _ _ _ _).mono ?_
      rintro e w' ⟨rfl, rfl⟩
      have hg := HG.out
      go_wp2
      go_ret3
      exact Int2E.none hb1
    · cases hr : okR room
      · rw [show rowE L gap room = 2 by simp [rowE, h0, hr], show rowB L gap room = [] by simp [rowB, rowR, rowE, h0, hr, startsL], show rowR L gap room = [] by simp [rowR, rowE, h0, hr]]
        have HG : Hid (inB gap 0 16384 = true) := Go.Lib.hid hg
        have HR : Hid (inB room 0 32768 = false) := Go.Lib.hid hr
        clear h0 hall hg hr
        go_enter Try.func69, Try.ntmps69
        go_wp2_with fail
        refine (HC.out _ hA hB).mono ?_
        rintro e w1 ⟨rfl, hb1⟩
        go_wp2_with fail
        refine (within_any _ _ _ _).mono ?_
        rintro e w' ⟨rfl, rfl⟩
        have hg := HG.out
        go_wp2_with fail
        refine (within_any _ _ _ _).mono ?_
        rintro e w' ⟨rfl, rfl⟩
        have hr := HR.out
        go_wp2
        go_ret3
        exact Int2E.none hb1
      · rw [show rowE L gap room = 0 by simp [rowE, h0, hg, hr], show rowB L gap room = startsL (shareP L (roomN L.length gap room)) gap by simp [rowB, rowR, rowE, h0, hg, hr], show rowR L gap room = shareP L (roomN L.length gap room) by simp [rowR, rowE, h0, hg, hr]]
        have HG : Hid (inB gap 0 16384 = true) := Go.Lib.hid hg
        have HR : Hid (inB room 0 32768 = true) := Go.Lib.hid hr
        have hgb := (inB_iff _ _ _).1 hg
        have hrb := (inB_iff _ _ _).1 hr
        have hl2 : L.length ≤ 1024 := hlen
        obtain ⟨hpb, hnb⟩ := roomN_bd hgb hrb hl2
        have hso := share_out hl2 hall hnb
        have HSO := Go.Lib.hid hso.2
        have HSL := Go.Lib.hid hso.1
        have HX : ∀ (x : Int), x = roomN L.length gap room → ∀ w1 : World, At B w1 A (t3s L) → B ≤ w1.heap.size → Calls Try.prog 84 #[.slice A L.length c, .int .i64 x] w1 (IntsPost (shareP L (roomN L.length gap room)) w1) := by
          rintro x rfl w1 h1 h2
          exact share_any B A c L _ w1 h1 h2 hl2 HA.out hnb
        by_cases hc : 0 < (L.length : Int) - 1
        · rw [show max 0 ((L.length : Int) - 1) = (L.length : Int) - 1 by omega] at hpb
          have hE : max 0 (room - gap * ((L.length : Int) - 1)) = roomN L.length gap room := by
            unfold roomN
            rw [show max 0 ((L.length : Int) - 1) = (L.length : Int) - 1 by omega]
          have HE := Go.Lib.hid hE
          clear h0 hall hg hr hso hE
          by_cases hd : 0 < room - gap * ((L.length : Int) - 1)
          all_goals
            go_enter Try.func69, Try.ntmps69
            go_wp2_with fail
            refine (HC.out _ hA hB).mono ?_
            rintro e w1 ⟨rfl, hb1⟩
            have hA1 := hA.below (hb1.mono hB)
            have hs1 := hb1.size
            go_wp2_with fail
            refine (within_any _ _ _ _).mono ?_
            rintro e w' ⟨rfl, rfl⟩
            have hg := HG.out
            go_wp2_with fail
            refine (within_any _ _ _ _).mono ?_
            rintro e w' ⟨rfl, rfl⟩
            have hr := HR.out
            go_wp2_with fail
            refine (HX _ ?_ _ hA1 (by omega)).mono ?_
            · have := HE.out
              omega
            rintro e w2 ⟨A2, c2, rfl, hown, hb2⟩
            generalize shareP L (roomN L.length gap room) = S at *
            have hs2 := hb2.size
            have hAt := At.of_own hown
            go_wp2_with fail
            refine (starts_any _ A2 c2 S gap w2 hAt (Nat.le_refl _) (by have := HSL.out; omega) HSO.out hgb).mono ?_
            rintro e w3 ⟨A3, c3, rfl, hown3, hb3⟩
            clear hg hr
            go_wp2
            go_ret3
            exact ⟨A2, c2, A3, c3, rfl, own_mono (own_below' hown hb3) hs1, own_mono hown3 (by omega), (fun k h1 h2 => by have := (hown.lt k h2).2; have := (hown3.lt k h1).1; omega), hb1.trans ((hb2.mono hs1).trans (hb3.mono (by omega)))⟩
        · have hE : max 0 room = roomN L.length gap room := by
            unfold roomN
            rw [show max 0 ((L.length : Int) - 1) = 0 by omega, Int.mul_zero, Int.sub_zero]
          have HE := Go.Lib.hid hE
          clear h0 hall hg hr hso hE hpb
          by_cases hd : 0 < room
          all_goals
            go_enter Try.func69, Try.ntmps69
            go_wp2_with fail
            refine (HC.out _ hA hB).mono ?_
            rintro e w1 ⟨rfl, hb1⟩
            have hA1 := hA.below (hb1.mono hB)
            have hs1 := hb1.size
            go_wp2_with fail
            refine (within_any _ _ _ _).mono ?_
            rintro e w' ⟨rfl, rfl⟩
            have hg := HG.out
            go_wp2_with fail
            refine (within_any _ _ _ _).mono ?_
            rintro e w' ⟨rfl, rfl⟩
            have hr := HR.out
            go_wp2_with fail
            refine (HX _ ?_ _ hA1 (by omega)).mono ?_
            · have := HE.out
              omega
            rintro e w2 ⟨A2, c2, rfl, hown, hb2⟩
            generalize shareP L (roomN L.length gap room) = S at *
            have hs2 := hb2.size
            have hAt := At.of_own hown
            go_wp2_with fail
            refine (starts_any _ A2 c2 S gap w2 hAt (Nat.le_refl _) (by have := HSL.out; omega) HSO.out hgb).mono ?_
            rintro e w3 ⟨A3, c3, rfl, hown3, hb3⟩
            clear hg hr
            go_wp2
            go_ret3
            exact ⟨A2, c2, A3, c3, rfl, own_mono (own_below' hown hb3) hs1, own_mono hown3 (by omega), (fun k h1 h2 => by have := (hown.lt k h2).2; have := (hown3.lt k h1).1; omega), hb1.trans ((hb2.mono hs1).trans (hb3.mono (by omega)))⟩
  · have hne : (chk L != 0) = true := by simpa using h0
    rw [show rowE L gap room = chk L by simp [rowE, h0], show rowB L gap room = [] by simp [rowB, rowR, rowE, h0, startsL], show rowR L gap room = [] by simp [rowR, rowE, h0]]
    go_enter Try.func69, Try.ntmps69
    go_wp2_with fail
    refine (check_any B A c L _ hA hB hl).mono ?_
    rintro e w1 ⟨rfl, hb1⟩
    go_wp2
    go_ret3
    exact Int2E.none hb1

set_option maxRecDepth 100000 in
set_option maxHeartbeats 4000000 in
theorem rRow_any (B : Nat) (A : Option Addr) (c : Nat) (L : List T3) (gap room : Int) (w : World) (hA : At B w A (t3s L)) (hB : B ≤ w.heap.size) (hl : L.length ≤ 9000000000000000000) :
    Calls Try.prog 56 #[.slice A L.length c, .int .i64 gap, .int .i64 room] w (Int2E (rowR L gap room) (rowB L gap room) (rowE L gap room) w) := by
  by_cases h0 : chk L = 0
  · obtain ⟨hlen, hall⟩ := chk_ok h0
    have HA := Go.Lib.hid hall
    have HC := Go.Lib.hid (fun w h1 h2 => h0 ▸ rcheck_any B A c L w h1 h2 hl)
    cases hg : okG gap
    · rw [show rowE L gap room = 2 by simp [rowE, h0, hg], show rowB L gap room = [] by simp [rowB, rowR, rowE, h0, hg, startsL], show rowR L gap room = [] by simp [rowR, rowE, h0, hg]]
      have HG : Hid (inB gap 0 16384 = false) := Go.Lib.hid hg
      clear h0 hall hg
      go_enter Try.func56, Try.ntmps56
      go_wp2_with fail
      refine (HC.out _ hA hB).mono ?_
      rintro e w1 ⟨rfl, hb1⟩
      go_wp2_with fail
      refine (gaps_any _ _).mono ?_
      rintro e w' ⟨rfl, rfl⟩
      have hg := HG.out
      go_wp2
      go_ret3
      exact Int2E.none hb1
    · cases hr : okR room
      · rw [show rowE L gap room = 2 by simp [rowE, h0, hr], show rowB L gap room = [] by simp [rowB, rowR, rowE, h0, hr, startsL], show rowR L gap room = [] by simp [rowR, rowE, h0, hr]]
        have HG : Hid (inB gap 0 16384 = true) := Go.Lib.hid hg
        have HR : Hid (inB room 0 32768 = false) := Go.Lib.hid hr
        clear h0 hall hg hr
        go_enter Try.func56, Try.ntmps56
        go_wp2_with fail
        refine (HC.out _ hA hB).mono ?_
        rintro e w1 ⟨rfl, hb1⟩
        go_wp2_with fail
        refine (gaps_any _ _).mono ?_
        rintro e w' ⟨rfl, rfl⟩
        have hg := HG.out
        go_wp2_with fail
        refine (room_any _ _).mono ?_
        rintro e w' ⟨rfl, rfl⟩
        have hr := HR.out
        go_wp2
        go_ret3
        exact Int2E.none hb1
      · rw [show rowE L gap room = 0 by simp [rowE, h0, hg, hr], show rowB L gap room = startsL (shareP L (roomN L.length gap room)) gap by simp [rowB, rowR, rowE, h0, hg, hr], show rowR L gap room = shareP L (roomN L.length gap room) by simp [rowR, rowE, h0, hg, hr]]
        have HG : Hid (inB gap 0 16384 = true) := Go.Lib.hid hg
        have HR : Hid (inB room 0 32768 = true) := Go.Lib.hid hr
        have hgb := (inB_iff _ _ _).1 hg
        have hrb := (inB_iff _ _ _).1 hr
        have hl2 : L.length ≤ 1024 := hlen
        by_cases hL : L = []
        · subst hL
          rw [share_nil]
          clear h0 hall hg hr
          go_enter Try.func56, Try.ntmps56
          go_wp2_with fail
          refine (HC.out _ hA hB).mono ?_
          rintro e w1 ⟨rfl, hb1⟩
          have hs1 := hb1.size
          go_wp2_with fail
          refine (gaps_any _ _).mono ?_
          rintro e w' ⟨rfl, rfl⟩
          have hg := HG.out
          go_wp2_with fail
          refine (room_any _ _).mono ?_
          rintro e w' ⟨rfl, rfl⟩
          have hr := HR.out
          go_wp2_with fail
          refine (sharing_nil A c _ _ (by omega)).mono ?_
          rintro e w' ⟨rfl, rfl⟩
          go_wp2_with fail
          refine (begins_any 0 none 0 [] gap _ (fun h => by simp [ints] at h) (Nat.zero_le _) (by simp) (by simp) hgb).mono ?_
          rintro e w3 ⟨A3, c3, rfl, hown3, hb3⟩
          clear hg hr
          go_wp2
          go_ret3
          exact ⟨none, 0, A3, c3, rfl, World.ownsRow_nil _ _ _ _, own_mono hown3 hs1, (fun k _ h2 => by simp [Value.ownBlock] at h2), hb1.trans (hb3.mono hs1)⟩
        · have hpos : 1 ≤ L.length := List.length_pos_iff.2 hL
          obtain ⟨hpb, hnb⟩ := roomN_bd hgb hrb hl2
          have hso := share_out hl2 hall hnb
          have hE : max 0 (room - gap * ((L.length : Int) - 1)) = roomN L.length gap room := by
            unfold roomN
            rw [show max 0 ((L.length : Int) - 1) = (L.length : Int) - 1 by omega]
          rw [show max 0 ((L.length : Int) - 1) = (L.length : Int) - 1 by omega] at hpb
          have HE := Go.Lib.hid hE
          have HSO := Go.Lib.hid hso.2
          have HSL := Go.Lib.hid hso.1
          have HX : ∀ (x : Int), x = roomN L.length gap room → ∀ w1 : World, At B w1 A (t3s L) → B ≤ w1.heap.size → Calls Try.prog 74 #[.slice A L.length c, .int .i64 x] w1 (IntsPost (shareP L (roomN L.length gap room)) w1) := by
            rintro x rfl w1 h1 h2
            exact sharing_any B A c L _ w1 h1 h2 hl2 HA.out hnb
          clear h0 hall hg hr hso hE hL
          by_cases hd : 0 < room - gap * ((L.length : Int) - 1)
          all_goals
            go_enter Try.func56, Try.ntmps56
            go_wp2_with fail
            refine (HC.out _ hA hB).mono ?_
            rintro e w1 ⟨rfl, hb1⟩
            have hA1 := hA.below (hb1.mono hB)
            have hs1 := hb1.size
            go_wp2_with fail
            refine (gaps_any _ _).mono ?_
            rintro e w' ⟨rfl, rfl⟩
            have hg := HG.out
            go_wp2_with fail
            refine (room_any _ _).mono ?_
            rintro e w' ⟨rfl, rfl⟩
            have hr := HR.out
            go_wp2_with fail
            refine (HX _ ?_ _ hA1 (by omega)).mono ?_
            · have := HE.out
              omega
            rintro e w2 ⟨A2, c2, rfl, hown, hb2⟩
            generalize shareP L (roomN L.length gap room) = S at *
            have hs2 := hb2.size
            have hAt := At.of_own hown
            go_wp2_with fail
            refine (begins_any _ A2 c2 S gap w2 hAt (Nat.le_refl _) (by have := HSL.out; omega) HSO.out hgb).mono ?_
            rintro e w3 ⟨A3, c3, rfl, hown3, hb3⟩
            clear hg hr
            go_wp2
            go_ret3
            exact ⟨A2, c2, A3, c3, rfl, own_mono (own_below' hown hb3) hs1, own_mono hown3 (by omega), (fun k h1 h2 => by have := (hown.lt k h2).2; have := (hown3.lt k h1).1; omega), hb1.trans ((hb2.mono hs1).trans (hb3.mono (by omega)))⟩
  · have hne : (chk L == 0) = false := by simpa using h0
    have hne2 : (chk L != 0) = true := by simpa using h0
    rw [show rowE L gap room = chk L by simp [rowE, h0], show rowB L gap room = [] by simp [rowB, rowR, rowE, h0, startsL], show rowR L gap room = [] by simp [rowR, rowE, h0]]
    go_enter Try.func56, Try.ntmps56
    go_wp2_with fail
    refine (rcheck_any B A c L _ hA hB hl).mono ?_
    rintro e w1 ⟨rfl, hb1⟩
    go_wp2
    go_ret3
    exact Int2E.none hb1
end Go.Proofs.Ytjippgflempdmaa
